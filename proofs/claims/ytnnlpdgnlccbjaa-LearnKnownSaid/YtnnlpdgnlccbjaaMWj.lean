/-
  Laws of the small executor, and walks of the functions that the statement reaches (part 10 of several, put together out of smaller texts).
  The conditions stand with each law.
-/
import Derived.Test.YtnnlpdgnlccbjaaMWi
namespace Go.Proofs.Ytnnlpdgnlccbjaa
open Go.Sx
set_option maxRecDepth 100000
set_option maxHeartbeats 2000000
/-- An event: its tick, and its input or neuron. -/
structure Evt where
 tick:Int
 id:Int
 deriving DecidableEq
def Evt.vals (x:Evt):List Value:=[.int .i64 x.tick,.int .i64 x.id]
def Evt.cells (x:Evt):List SV:=[ii x.tick,ii x.id]
theorem Evt.vlen (x:Evt):x.vals.length=2:=rfl
theorem Evt.clen (x:Evt):x.cells.length=2:=rfl
/-- A prize: its tick, its rule, its value. -/
structure Prz where
 tick:Int
 id:Int
 val:Int
 deriving DecidableEq
def Prz.vals (x:Prz):List Value:=[.int .i64 x.tick,.int .i64 x.id,.int .i64 x.val]
theorem Prz.vlen (x:Prz):x.vals.length=3:=rfl
def evt0:Evt:=⟨0,0⟩
def prz0:Prz:=⟨0,0,0⟩
/-- The error of an event of a list. -/
def evAt (inp lim:Int) (l:List Evt) (i:Nat):Int :=
 if (wi (l.getD i evt0).tick 0 (W (lim-1))&&wi (l.getD i evt0).id 0 (W (inp-1)))=false then 3
 else if 0<i∧((l.getD i evt0).tick<(l.getD (i-1) evt0).tick∨(l.getD i evt0).tick=(l.getD (i-1) evt0).tick∧(l.getD i evt0).id≤(l.getD (i-1) evt0).id) then 2 else 0
def evsChk (inp lim:Int) (l:List Evt):Int:=if 65536<(l.length:Int) then 9 else firstE (evAt inp lim l) (List.range l.length)
def pzAt (rules:Int) (l:List Prz) (i:Nat):Int :=
 if (wi (l.getD i prz0).tick 0 9999&&wi (l.getD i prz0).id 0 (W (rules-1))&&wi (l.getD i prz0).val (-128) 127)=false then 3
 else if 0<i∧((l.getD i prz0).tick<(l.getD (i-1) prz0).tick∨(l.getD i prz0).tick=(l.getD (i-1) prz0).tick∧(l.getD i prz0).id≤(l.getD (i-1) prz0).id) then 2 else 0
def pzsChk (rules:Int) (l:List Prz):Int:=if 65536<(l.length:Int) then 9 else firstE (pzAt rules l) (List.range l.length)
theorem firstN_at {f:Nat→Int} {n i:Nat} (hi:i<n) (h0 : ∀ j,j<n→j<i→f j=0) (h:f i≠0):firstE f (List.range n)=f i:=by
 have hl:i<(List.range n).length:=by simpa using hi
 have:=firstE_at (f:=f) hl (fun j hj hji=>by simpa using h0 j (by simpa using hj) hji) (by simpa using h)
 simpa using this
theorem firstN_all {f:Nat→Int} {n:Nat} (h0 : ∀ j,j<n→f j=0):firstE f (List.range n)=0:=firstE_all fun j hj=>by simpa using h0 j (by simpa using hj)
theorem upN {n i:Nat} {P:Nat→Prop} (hJ : ∀ j,j<n→j<i→P j) (hp:P i) : ∀ j,j<n→j<i+1→P j:=fun j hj hji=>by
 rcases Nat.lt_or_ge j i with h | h
 ·exact hJ j hj h
 ·have:j=i:=by omega
  subst this; exact hp
theorem nordered_run (vN vS:Value) (n:Net) (vE:Value) (l:List Evt) (lim:Int) (w:World) (hn:IsNet w vN vS n) (hr:RowsAt w vE 2 l.length (l.flatMap Evt.vals)) :
  Calls Try.prog 91 #[netV vN vS n,vE,.int .i64 lim] w fun e w'=>e = .returned (.int .i64 (evsChk n.inp lim l))∧Ext w w':=by
 have hc : ∀ L,Cx.ok ⟨Try.prog,tab,[(76,F3 fun n lo hi => .bool (wi n lo hi))],91,Try.f91,[],w,L,none⟩:=fun L=>⟨tab_ok,⟨nwithin_pure,trivial⟩,Try.func91,mixed,fun _ h=>by cases h⟩
 obtain ⟨h1,h2⟩:=hn
 obtain ⟨N,inp,S⟩:=n
 simp only at h1 h2
 have hrows:AllP (fun x:Value × Nat × Nat × List Value=>RowsAt w x.1 x.2.1 x.2.2.1 x.2.2.2) [(vN,8,N.length,N.flatMap Prm.vals),(vS,4,S.length,S.flatMap Syn.vals),(vE,2,l.length,l.flatMap Evt.vals)]:=⟨h1,h2,hr,trivial⟩
 refine Run.startW Try.func91 rfl _ hrows [.agg [.opq 0,ii inp,.opq 1],.opq 2,ii lim] [netV vN vS ⟨N,inp,S⟩,vE,.int .i64 lim] [(0,.rwin 8 N.length (N.flatMap Prm.vals)),(1,.rwin 4 S.length (S.flatMap Syn.vals)),(2,.rwin 2 l.length (l.flatMap Evt.vals))] 3 rfl rfl
  (by show [Value.agg [(SV.opq 0).conc _,.int .i64 inp,(SV.opq 1).conc _].toArray,(SV.opq 2).conc _,.int .i64 lim]=_; rw [conc_rows hrows (k:=0) rfl,conc_rows hrows (k:=1) rfl,conc_rows hrows (k:=2) rfl]; rfl) (by simp [SV.scs,SV.sc]) rfl (Run.of_wpK (hc _) 1000 _ ?_)
 conv=>whnf
 have fin : ∀ x:Int,evsChk inp lim l=x → ∀ {M:List (Nat × SObj)} {n:Nat} {c:Cx},c.w0=w→c.L=[]→RetOk c M n (.v (.int .i64 x)) (fun e w'=>e = .returned (.int .i64 (evsChk inp lim l))∧Ext w w') :=
  fun x hx M n c hw hL=>⟨fun ρ w' hW _=>⟨by rw [hx]; rfl,by rw [hw,hL] at hW; exact hW.toExt⟩⟩
 cases e1:decide (65536<(l.length:Int))
 case true =>
  conv=>whnf
  exact fin 9 (by unfold evsChk; rw [if_pos (of_decide_eq_true e1)]) rfl rfl
 have e1':=of_decide_eq_false e1
 conv=>whnf
 refine Run.trim (T':=[(1,.opq 2),(2,ii lim),(3,.ptr 3 0),(6,ii 0),(12,.opq 2),(13,ii (l.length:Int)),(14,ii ((0:Nat):Int))]) (M':=[(3,.cells [.opq 0,ii inp,.opq 1] 25),(0,.rwin 8 N.length (N.flatMap Prm.vals)),(1,.rwin 4 S.length (S.flatMap Syn.vals)),(2,.rwin 2 l.length (l.flatMap Evt.vals))]) 4 ⟨⟨rfl,(show 2<4 by decide)⟩,⟨rfl,trivial⟩,⟨rfl,(show 3<4 by decide)⟩,⟨rfl,trivial⟩,⟨rfl,(show 2<4 by decide)⟩,⟨rfl,trivial⟩,⟨rfl,trivial⟩,trivial⟩ ⟨⟨rfl,(show 3<4 by decide),by simp [SObj.sc,SV.scs,SV.sc]⟩,⟨rfl,(show 0<4 by decide),trivial⟩,⟨rfl,(show 1<4 by decide),trivial⟩,⟨rfl,(show 2<4 by decide),trivial⟩,trivial⟩ (fun q hq=>by cases hq) ?_
 refine Run.upToJ (T:=fun i=>[(1,.opq 2),(2,ii lim),(3,.ptr 3 0),(6,ii 0),(12,.opq 2),(13,ii (l.length:Int)),(14,ii (i:Int))]) (M:=fun i=>[(3,.cells [.opq 0,ii inp,.opq 1] 25),(0,.rwin 8 N.length (N.flatMap Prm.vals)),(1,.rwin 4 S.length (S.flatMap Syn.vals)),(2,.rwin 2 l.length (l.flatMap Evt.vals))]) (fun i => ∀ j,j<l.length→j<i→evAt inp lim l j=0) (l.length) ?_ ?_ ?_
 ·exact fun j _ h=>absurd h (Nat.not_lt_zero j)
 ·intro i hi hJ ih
  refine Run.of_wpK (hc _) 1000 _ ?_
  conv=>whnf
  rw [decide_eq_true (show ((i:Nat):Int)<(l.length:Int) by omega)]
  conv=>whnf
  have hgi:l.getD i evt0=l[i]:=by simp [List.getD_eq_getElem?_getD,hi]
  have three : ∀ x,evAt inp lim l i=x→x≠0→evsChk inp lim l=x:=fun x hx hx0=>by
   unfold evsChk
   rw [if_neg e1',firstN_at hi (fun j hj hji=>hJ j hj hji) (by rw [hx]; exact hx0),hx]
  refine ⟨by omega,?_⟩
  conv=>whnf
  rw [opF_loadW (f:=Evt.vals) (l:=l) i rfl rfl rfl rfl rfl Evt.vlen (by rw [idx_nat]) hi]
  conv=>whnf
  cases b0:wi l[i].tick 0 (IntKind.i64.wrap (lim-1))
  case false =>
   conv=>whnf
   exact fin 3 (three 3 (by unfold evAt W; rw [hgi,b0]; rfl) (by decide)) rfl rfl
  conv=>whnf
  cases b1:wi l[i].id 0 (IntKind.i64.wrap (inp-1))
  case false =>
   conv=>whnf
   exact fin 3 (three 3 (by unfold evAt W; rw [hgi,b0,b1]; rfl) (by decide)) rfl rfl
  conv=>whnf
  refine Run.draw (hc _) 32 ?_
  rw [show upto 0 32=upto 0 2++(upto 2 7++(upto 9 2++(upto 11 1++(upto 12 7++(upto 19 2++(upto 21 1++(upto 22 7++(upto 29 2++upto 31 1)))))))) from rfl]
  simp only [drawK_app]
  conv=>whnf
  cases b5:decide ((0:Int)<(i:Int))
  case false =>
   have hi0:=of_decide_eq_false b5
   conv=>whnf
   refine ⟨by kernel_rfl,?_⟩
   refine Run.of_wpK (hc _) 1000 _ ?_
   conv=>whnf
   rw [wrap_succ (i:=i) (by omega)]
   exact Run.trim (T':=[(1,.opq 2),(2,ii lim),(3,.ptr 3 0),(6,ii 0),(12,.opq 2),(13,ii (l.length:Int)),(14,ii ((i+1:Nat):Int))]) (M':=[(3,.cells [.opq 0,ii inp,.opq 1] 25),(0,.rwin 8 N.length (N.flatMap Prm.vals)),(1,.rwin 4 S.length (S.flatMap Syn.vals)),(2,.rwin 2 l.length (l.flatMap Evt.vals))]) 4 ⟨⟨rfl,(show 2<4 by decide)⟩,⟨rfl,trivial⟩,⟨rfl,(show 3<4 by decide)⟩,⟨rfl,trivial⟩,⟨rfl,(show 2<4 by decide)⟩,⟨rfl,trivial⟩,⟨rfl,trivial⟩,trivial⟩ ⟨⟨rfl,(show 3<4 by decide),by simp [SObj.sc,SV.scs,SV.sc]⟩,⟨rfl,(show 0<4 by decide),trivial⟩,⟨rfl,(show 1<4 by decide),trivial⟩,⟨rfl,(show 2<4 by decide),trivial⟩,trivial⟩ (fun q hq=>by cases hq) (ih (upN hJ (by unfold evAt W; rw [hgi,b0,b1,if_neg (by decide),if_neg (fun h=>hi0 (by omega))])))
  have hi0:0<i:=by have:=of_decide_eq_true b5; omega
  have him:i-1<l.length:=by omega
  have hgm:l.getD (i-1) evt0=l[i-1]:=by simp [List.getD_eq_getElem?_getD,him]
  have hwr:IntKind.i64.wrap ((i:Int)-1)=((i-1:Nat):Int):=by
   have:=W_id (a:=(i:Int)-1) (by omega) (by omega)
   have e:IntKind.i64.wrap ((i:Int)-1)=(i:Int)-1:=this
   omega
  conv=>whnf
  rw [hwr]
  refine ⟨by omega,?_⟩
  conv=>whnf
  rw [opF_loadWf (f:=Evt.vals) (l:=l) (c := .int .i64 l[i-1].tick) (i-1) 0 rfl rfl rfl rfl Evt.vlen (by rw [idx_nat]) him (by decide) rfl]
  conv=>whnf
  cases b6:decide (l[i].tick<l[i-1].tick)
  case true =>
   have b6':=of_decide_eq_true b6
   conv=>whnf
   refine ⟨by kernel_rfl,?_⟩
   refine Run.of_wpK (hc _) 1000 _ ?_
   conv=>whnf
   exact fin 2 (three 2 (by unfold evAt W; rw [hgi,hgm,b0,b1,if_neg (by decide),if_pos ⟨hi0,.inl b6'⟩]) (by decide)) rfl rfl
  have b6':=of_decide_eq_false b6
  conv=>whnf
  rw [hwr]
  refine ⟨by omega,?_⟩
  conv=>whnf
  rw [opF_loadWf (f:=Evt.vals) (l:=l) (c := .int .i64 l[i-1].tick) (i-1) 0 rfl rfl rfl rfl Evt.vlen (by rw [idx_nat]) him (by decide) rfl]
  conv=>whnf
  cases b7:(l[i].tick==l[i-1].tick)
  case false =>
   have b7' : ¬ l[i].tick=l[i-1].tick:=by simpa using b7
   conv=>whnf
   refine ⟨by kernel_rfl,?_⟩
   refine Run.of_wpK (hc _) 1000 _ ?_
   conv=>whnf
   rw [wrap_succ (i:=i) (by omega)]
   exact Run.trim (T':=[(1,.opq 2),(2,ii lim),(3,.ptr 3 0),(6,ii 0),(12,.opq 2),(13,ii (l.length:Int)),(14,ii ((i+1:Nat):Int))]) (M':=[(3,.cells [.opq 0,ii inp,.opq 1] 25),(0,.rwin 8 N.length (N.flatMap Prm.vals)),(1,.rwin 4 S.length (S.flatMap Syn.vals)),(2,.rwin 2 l.length (l.flatMap Evt.vals))]) 4 ⟨⟨rfl,(show 2<4 by decide)⟩,⟨rfl,trivial⟩,⟨rfl,(show 3<4 by decide)⟩,⟨rfl,trivial⟩,⟨rfl,(show 2<4 by decide)⟩,⟨rfl,trivial⟩,⟨rfl,trivial⟩,trivial⟩ ⟨⟨rfl,(show 3<4 by decide),by simp [SObj.sc,SV.scs,SV.sc]⟩,⟨rfl,(show 0<4 by decide),trivial⟩,⟨rfl,(show 1<4 by decide),trivial⟩,⟨rfl,(show 2<4 by decide),trivial⟩,trivial⟩ (fun q hq=>by cases hq) (ih (upN hJ (by unfold evAt W; rw [hgi,hgm,b0,b1,if_neg (by decide),if_neg (fun h=>h.2.elim b6' fun h=>b7' h.1)])))
  have b7':l[i].tick=l[i-1].tick:=by simpa using b7
  conv=>whnf
  rw [hwr]
  refine ⟨by omega,?_⟩
  conv=>whnf
  rw [opF_loadWf (f:=Evt.vals) (l:=l) (c := .int .i64 l[i-1].id) (i-1) 1 rfl rfl rfl rfl Evt.vlen (by rw [idx_nat]) him (by decide) rfl]
  conv=>whnf
  cases b8:decide (l[i].id≤l[i-1].id)
  case true =>
   have b8':=of_decide_eq_true b8
   conv=>whnf
   refine ⟨by kernel_rfl,?_⟩
   refine Run.of_wpK (hc _) 1000 _ ?_
   conv=>whnf
   exact fin 2 (three 2 (by unfold evAt W; rw [hgi,hgm,b0,b1,if_neg (by decide),if_pos ⟨hi0,.inr ⟨b7',b8'⟩⟩]) (by decide)) rfl rfl
  have b8':=of_decide_eq_false b8
  conv=>whnf
  refine ⟨by kernel_rfl,?_⟩
  refine Run.of_wpK (hc _) 1000 _ ?_
  conv=>whnf
  rw [wrap_succ (i:=i) (by omega)]
  exact Run.trim (T':=[(1,.opq 2),(2,ii lim),(3,.ptr 3 0),(6,ii 0),(12,.opq 2),(13,ii (l.length:Int)),(14,ii ((i+1:Nat):Int))]) (M':=[(3,.cells [.opq 0,ii inp,.opq 1] 25),(0,.rwin 8 N.length (N.flatMap Prm.vals)),(1,.rwin 4 S.length (S.flatMap Syn.vals)),(2,.rwin 2 l.length (l.flatMap Evt.vals))]) 4 ⟨⟨rfl,(show 2<4 by decide)⟩,⟨rfl,trivial⟩,⟨rfl,(show 3<4 by decide)⟩,⟨rfl,trivial⟩,⟨rfl,(show 2<4 by decide)⟩,⟨rfl,trivial⟩,⟨rfl,trivial⟩,trivial⟩ ⟨⟨rfl,(show 3<4 by decide),by simp [SObj.sc,SV.scs,SV.sc]⟩,⟨rfl,(show 0<4 by decide),trivial⟩,⟨rfl,(show 1<4 by decide),trivial⟩,⟨rfl,(show 2<4 by decide),trivial⟩,trivial⟩ (fun q hq=>by cases hq) (ih (upN hJ (by unfold evAt W; rw [hgi,hgm,b0,b1,if_neg (by decide),if_neg (fun h=>h.2.elim b6' fun h=>b8' h.2)])))
 ·intro hJ
  refine Run.of_wpK (hc _) 1000 _ ?_
  conv=>whnf
  rw [decide_eq_false (show ¬ ((l.length:Nat):Int)<(l.length:Int) by omega)]
  conv=>whnf
  exact fin 0 (by unfold evsChk; rw [if_neg e1',firstN_all fun j hj=>hJ j hj hj]) rfl rfl
theorem lordered_run (rules:Int) (vE:Value) (l:List Prz) (w:World) (hr:RowsAt w vE 3 l.length (l.flatMap Prz.vals)) :
  Calls Try.prog 51 #[.int .i64 rules,vE] w fun e w'=>e = .returned (.int .i64 (pzsChk rules l))∧Ext w w':=by
 have hc : ∀ L,Cx.ok ⟨Try.prog,tab,[(44,F3 fun n lo hi => .bool (wi n lo hi))],51,Try.f51,[],w,L,none⟩:=fun L=>⟨tab_ok,⟨lwithin_pure,trivial⟩,Try.func51,mixed,fun _ h=>by cases h⟩
 have hrows:AllP (fun x:Value × Nat × Nat × List Value=>RowsAt w x.1 x.2.1 x.2.2.1 x.2.2.2) [(vE,3,l.length,l.flatMap Prz.vals)]:=⟨hr,trivial⟩
 refine Run.startW Try.func51 rfl _ hrows [ii rules,.opq 0] [.int .i64 rules,vE] [(0,.rwin 3 l.length (l.flatMap Prz.vals))] 1 rfl rfl
  (by show [Value.int .i64 rules,(SV.opq 0).conc _]=_; rw [conc_rows hrows (k:=0) rfl]) (by simp [SV.scs,SV.sc]) rfl (Run.of_wpK (hc _) 1000 _ ?_)
 conv=>whnf
 have fin : ∀ x:Int,pzsChk rules l=x → ∀ {M:List (Nat × SObj)} {n:Nat} {c:Cx},c.w0=w→c.L=[]→RetOk c M n (.v (.int .i64 x)) (fun e w'=>e = .returned (.int .i64 (pzsChk rules l))∧Ext w w') :=
  fun x hx M n c hw hL=>⟨fun ρ w' hW _=>⟨by rw [hx]; rfl,by rw [hw,hL] at hW; exact hW.toExt⟩⟩
 cases e1:decide (65536<(l.length:Int))
 case true =>
  conv=>whnf
  exact fin 9 (by unfold pzsChk; rw [if_pos (of_decide_eq_true e1)]) rfl rfl
 have e1':=of_decide_eq_false e1
 conv=>whnf
 refine Run.trim (T':=[(0,ii rules),(1,.opq 0),(4,ii 0),(10,.opq 0),(11,ii (l.length:Int)),(12,ii ((0:Nat):Int))]) (M':=[(0,.rwin 3 l.length (l.flatMap Prz.vals))]) 1 ⟨⟨rfl,trivial⟩,⟨rfl,(show 0<1 by decide)⟩,⟨rfl,trivial⟩,⟨rfl,(show 0<1 by decide)⟩,⟨rfl,trivial⟩,⟨rfl,trivial⟩,trivial⟩ ⟨⟨rfl,(show 0<1 by decide),trivial⟩,trivial⟩ (fun q hq=>by cases hq) ?_
 refine Run.upToJ (T:=fun i=>[(0,ii rules),(1,.opq 0),(4,ii 0),(10,.opq 0),(11,ii (l.length:Int)),(12,ii (i:Int))]) (M:=fun i=>[(0,.rwin 3 l.length (l.flatMap Prz.vals))]) (fun i => ∀ j,j<l.length→j<i→pzAt rules l j=0) (l.length) ?_ ?_ ?_
 ·exact fun j _ h=>absurd h (Nat.not_lt_zero j)
 ·intro i hi hJ ih
  refine Run.of_wpK (hc _) 1000 _ ?_
  conv=>whnf
  rw [decide_eq_true (show ((i:Nat):Int)<(l.length:Int) by omega)]
  conv=>whnf
  have hgi:l.getD i prz0=l[i]:=by simp [List.getD_eq_getElem?_getD,hi]
  have three : ∀ x,pzAt rules l i=x→x≠0→pzsChk rules l=x:=fun x hx hx0=>by
   unfold pzsChk
   rw [if_neg e1',firstN_at hi (fun j hj hji=>hJ j hj hji) (by rw [hx]; exact hx0),hx]
  refine ⟨by omega,?_⟩
  conv=>whnf
  rw [opF_loadW (f:=Prz.vals) (l:=l) i rfl rfl rfl rfl rfl Prz.vlen (by rw [idx_nat]) hi]
  conv=>whnf
  cases b0:wi l[i].tick 0 9999
  case false =>
   conv=>whnf
   exact fin 3 (three 3 (by unfold pzAt W; rw [hgi,b0]; rfl) (by decide)) rfl rfl
  conv=>whnf
  cases b1:wi l[i].id 0 (IntKind.i64.wrap (rules-1))
  case false =>
   conv=>whnf
   exact fin 3 (three 3 (by unfold pzAt W; rw [hgi,b0,b1]; rfl) (by decide)) rfl rfl
  conv=>whnf
  cases b2:wi l[i].val (-128) 127
  case false =>
   conv=>whnf
   exact fin 3 (three 3 (by unfold pzAt W; rw [hgi,b0,b1,b2]; rfl) (by decide)) rfl rfl
  conv=>whnf
  refine Run.draw (hc _) 32 ?_
  rw [show upto 0 32=upto 0 2++(upto 2 7++(upto 9 2++(upto 11 1++(upto 12 7++(upto 19 2++(upto 21 1++(upto 22 7++(upto 29 2++upto 31 1)))))))) from rfl]
  simp only [drawK_app]
  conv=>whnf
  cases b5:decide ((0:Int)<(i:Int))
  case false =>
   have hi0:=of_decide_eq_false b5
   conv=>whnf
   refine ⟨by kernel_rfl,?_⟩
   refine Run.of_wpK (hc _) 1000 _ ?_
   conv=>whnf
   rw [wrap_succ (i:=i) (by omega)]
   exact Run.trim (T':=[(0,ii rules),(1,.opq 0),(4,ii 0),(10,.opq 0),(11,ii (l.length:Int)),(12,ii ((i+1:Nat):Int))]) (M':=[(0,.rwin 3 l.length (l.flatMap Prz.vals))]) 1 ⟨⟨rfl,trivial⟩,⟨rfl,(show 0<1 by decide)⟩,⟨rfl,trivial⟩,⟨rfl,(show 0<1 by decide)⟩,⟨rfl,trivial⟩,⟨rfl,trivial⟩,trivial⟩ ⟨⟨rfl,(show 0<1 by decide),trivial⟩,trivial⟩ (fun q hq=>by cases hq) (ih (upN hJ (by unfold pzAt W; rw [hgi,b0,b1,b2,if_neg (by decide),if_neg (fun h=>hi0 (by omega))])))
  have hi0:0<i:=by have:=of_decide_eq_true b5; omega
  have him:i-1<l.length:=by omega
  have hgm:l.getD (i-1) prz0=l[i-1]:=by simp [List.getD_eq_getElem?_getD,him]
  have hwr:IntKind.i64.wrap ((i:Int)-1)=((i-1:Nat):Int):=by
   have:=W_id (a:=(i:Int)-1) (by omega) (by omega)
   have e:IntKind.i64.wrap ((i:Int)-1)=(i:Int)-1:=this
   omega
  conv=>whnf
  rw [hwr]
  refine ⟨by omega,?_⟩
  conv=>whnf
  rw [opF_loadWf (f:=Prz.vals) (l:=l) (c := .int .i64 l[i-1].tick) (i-1) 0 rfl rfl rfl rfl Prz.vlen (by rw [idx_nat]) him (by decide) rfl]
  conv=>whnf
  cases b6:decide (l[i].tick<l[i-1].tick)
  case true =>
   have b6':=of_decide_eq_true b6
   conv=>whnf
   refine ⟨by kernel_rfl,?_⟩
   refine Run.of_wpK (hc _) 1000 _ ?_
   conv=>whnf
   exact fin 2 (three 2 (by unfold pzAt W; rw [hgi,hgm,b0,b1,b2,if_neg (by decide),if_pos ⟨hi0,.inl b6'⟩]) (by decide)) rfl rfl
  have b6':=of_decide_eq_false b6
  conv=>whnf
  rw [hwr]
  refine ⟨by omega,?_⟩
  conv=>whnf
  rw [opF_loadWf (f:=Prz.vals) (l:=l) (c := .int .i64 l[i-1].tick) (i-1) 0 rfl rfl rfl rfl Prz.vlen (by rw [idx_nat]) him (by decide) rfl]
  conv=>whnf
  cases b7:(l[i].tick==l[i-1].tick)
  case false =>
   have b7' : ¬ l[i].tick=l[i-1].tick:=by simpa using b7
   conv=>whnf
   refine ⟨by kernel_rfl,?_⟩
   refine Run.of_wpK (hc _) 1000 _ ?_
   conv=>whnf
   rw [wrap_succ (i:=i) (by omega)]
   exact Run.trim (T':=[(0,ii rules),(1,.opq 0),(4,ii 0),(10,.opq 0),(11,ii (l.length:Int)),(12,ii ((i+1:Nat):Int))]) (M':=[(0,.rwin 3 l.length (l.flatMap Prz.vals))]) 1 ⟨⟨rfl,trivial⟩,⟨rfl,(show 0<1 by decide)⟩,⟨rfl,trivial⟩,⟨rfl,(show 0<1 by decide)⟩,⟨rfl,trivial⟩,⟨rfl,trivial⟩,trivial⟩ ⟨⟨rfl,(show 0<1 by decide),trivial⟩,trivial⟩ (fun q hq=>by cases hq) (ih (upN hJ (by unfold pzAt W; rw [hgi,hgm,b0,b1,b2,if_neg (by decide),if_neg (fun h=>h.2.elim b6' fun h=>b7' h.1)])))
  have b7':l[i].tick=l[i-1].tick:=by simpa using b7
  conv=>whnf
  rw [hwr]
  refine ⟨by omega,?_⟩
  conv=>whnf
  rw [opF_loadWf (f:=Prz.vals) (l:=l) (c := .int .i64 l[i-1].id) (i-1) 1 rfl rfl rfl rfl Prz.vlen (by rw [idx_nat]) him (by decide) rfl]
  conv=>whnf
  cases b8:decide (l[i].id≤l[i-1].id)
  case true =>
   have b8':=of_decide_eq_true b8
   conv=>whnf
   refine ⟨by kernel_rfl,?_⟩
   refine Run.of_wpK (hc _) 1000 _ ?_
   conv=>whnf
   exact fin 2 (three 2 (by unfold pzAt W; rw [hgi,hgm,b0,b1,b2,if_neg (by decide),if_pos ⟨hi0,.inr ⟨b7',b8'⟩⟩]) (by decide)) rfl rfl
  have b8':=of_decide_eq_false b8
  conv=>whnf
  refine ⟨by kernel_rfl,?_⟩
  refine Run.of_wpK (hc _) 1000 _ ?_
  conv=>whnf
  rw [wrap_succ (i:=i) (by omega)]
  exact Run.trim (T':=[(0,ii rules),(1,.opq 0),(4,ii 0),(10,.opq 0),(11,ii (l.length:Int)),(12,ii ((i+1:Nat):Int))]) (M':=[(0,.rwin 3 l.length (l.flatMap Prz.vals))]) 1 ⟨⟨rfl,trivial⟩,⟨rfl,(show 0<1 by decide)⟩,⟨rfl,trivial⟩,⟨rfl,(show 0<1 by decide)⟩,⟨rfl,trivial⟩,⟨rfl,trivial⟩,trivial⟩ ⟨⟨rfl,(show 0<1 by decide),trivial⟩,trivial⟩ (fun q hq=>by cases hq) (ih (upN hJ (by unfold pzAt W; rw [hgi,hgm,b0,b1,b2,if_neg (by decide),if_neg (fun h=>h.2.elim b6' fun h=>b8' h.2)])))
 ·intro hJ
  refine Run.of_wpK (hc _) 1000 _ ?_
  conv=>whnf
  rw [decide_eq_false (show ¬ ((l.length:Nat):Int)<(l.length:Int) by omega)]
  conv=>whnf
  exact fin 0 (by unfold pzsChk; rw [if_neg e1',firstN_all fun j hj=>hJ j hj hj]) rfl rfl
end Go.Proofs.Ytnnlpdgnlccbjaa
namespace Go.Sx
theorem run_zeroV {P:Program} (w:World) {t:TypeId} {inf:TypeInfo} {z:Value} (hi:P.info? t=some inf) (hz:inf.zero=some z):(zeroValue t).run P w = .ok z w:=by
 simp [zeroValue,typeInfo,hi,hz]
theorem zeroCells_one (zv:Value) (m:Nat):(Builtin.zeroCells #[zv] m).toList=List.replicate m zv:=by
 unfold Builtin.zeroCells
 refine List.ext_getElem (by simp) fun i h1 h2 => ?_
 simp [Nat.mod_one]
/-- A slice of elements of one cell is cleared. -/
theorem Run.clear1 {c:Cx} (hc:c.ok) {T:List (Nat × SV)} {M:List (Nat × SObj)} {n:Nat} {D:List Deferred} {ops:Array Oper} {i:Nat} {r:List Nat} {k:List Item} {R:Ending→World→Prop} {o:Oper} {x:Operand} {t:TypeId}
  (ho:get ops.toList i=some o) (hop:o.op = .call { callee := .builtin .clear,args := #[x],argTypes := #[t] }) (hw:wantS ops.toList (look T) o=some true) (hd:okD c.fn.ntmps o.dst=true)
  {j m:Nat} {xs:List SV} {te:TypeId} (hx:ev (look T) x=some (.opq j)) (hj:look M j=some (.row 1 m xs te))
  {ti tie:TI} {bytes:Nat} (hti:look c.tab t=some ti) (hsh:ti.sh = .slc te 1 bytes) (hte:look c.tab te=some tie) {zv:Value} (hz:tie.zero=[zv]) (h1:zv.oneCell'=true)
  (h:Run c ⟨putS T o.dst (.tup []),(j,.row 1 m (List.replicate m (.v zv)) te)::M,n,D,.inRegion ops r::k⟩ R):Run c ⟨T,M,n,D,.inRegion ops (i::r)::k⟩ R:=by
 refine ⟨fun ρ a w hi => ?_⟩
 rw [get_eq,Array.getElem?_toList] at ho
 refine TW.op ho (wantS_ok hi.tm hw) ?_
 obtain ⟨hx1,_⟩:=ev_ok hi.tm hx
 have hti:=Tab.ok_look hc.tab hti
 have hte:=Tab.ok_look hc.tab hte
 obtain ⟨d,hd1,hd2⟩:=hti.desc
 obtain ⟨inf,rfl,g2,g3,g4⟩:=sh_desc.2.2.2.2.1 te 1 bytes (hd2.trans hsh)
 obtain ⟨inf',z,i1,_,i3,i4⟩:=hte.infos
 rw [g2] at i1
 obtain rfl:=Option.some.inj i1
 have hzc:z.cells = #[zv]:=by rw [hz] at i4; rw [← i4]
 obtain ⟨hjn,hscr,hoff,hlen,hrow⟩:=hi.wi.mem j _ hj
 have hund:(underlying t).run c.P w = .ok (.slice te) w:=by simp [underlying,hd1]
 have key : ∀ w',(execOp a.eval o).run c.P w = .ok (.value (.tuple #[])) w'→WI c.w0 c.L ρ (upd (look M) j (.row 1 m (List.replicate m (.v zv)) te)) (· < n) w'→Oc c.P a o w fun v w'=>TW c.P c.f c.rr (a.put o.dst v) (.inRegion ops r::k) w' R:=by
  intro w' hr hW'
  refine Oc.value (v := .tuple #[]) hr ?_
  rw [← look_upd] at hW'
  have hinv:=hi.put (ρ':=ρ) hd (Env.agree.refl _ ρ) (Nat.le_refl n) (v := .tup []) trivial hW' (.inRegion ops r::k)
  exact h.go _ _ w' hinv
 have hl0:m=0→xs=[]:=fun h0=>List.eq_nil_of_length_eq_zero (by rw [hlen,h0,Nat.zero_mul])
 have same:m=0→WI c.w0 c.L ρ (upd (look M) j (.row 1 m (List.replicate m (.v zv)) te)) (· < n) w:=fun h0=>by
  have e:upd (look M) j (.row 1 m (List.replicate m (.v zv)) te)=look M:=by
   funext q
   unfold upd
   split
   ·rename_i e; subst e; rw [hj,hl0 h0,h0]; rfl
   ·rfl
  rw [e]; exact hi.wi
 rcases hrow with ⟨hh,h0⟩ | ⟨cap,sp,hh,hcap,hheap⟩
 ·refine key w ?_ (same h0)
  simp only [SV.conc,hh] at hx1
  simp [execOp,hop,resolve,invoke,builtin,hx1,Builtin.clear_,hund]
 ·simp only [SV.conc,hh] at hx1
  rcases Nat.eq_zero_or_pos m with h0 | h0
  ·refine key w ?_ (same h0)
   subst h0
   simp [execOp,hop,resolve,invoke,builtin,hx1,Builtin.clear_,hund]
  ·have hst:=run_stores (P:=c.P) (ρ.s j) 0 te (List.replicate m zv) 0 (SV.concs ρ xs++sp) w hheap (by simp [concs_length]; omega) (fun v hv=>by rw [List.eq_of_mem_replicate hv]; exact h1)
   have hl2:List.take (0+0) (SV.concs ρ xs++sp)++List.replicate m zv++List.drop (0+0+(List.replicate m zv).length) (SV.concs ρ xs++sp)=SV.concs ρ (List.replicate m (.v zv))++sp:=by
    have hxl:(SV.concs ρ xs).length=m:=by rw [concs_length,hlen,Nat.mul_one]
    have hrep:SV.concs ρ (List.replicate m (.v zv))=List.replicate m zv:=by rw [concs_map,List.map_replicate]; rfl
    rw [hrep,List.length_replicate,Nat.zero_add,Nat.zero_add,List.take_zero,List.nil_append]
    conv=>lhs; rw [← hxl]
    rw [List.drop_left,hxl]
   rw [hl2] at hst
   have hscs:SV.scs (· < n) (List.replicate m (SV.v zv)):=by
    rw [scs_iff]; intro a ha; rw [List.eq_of_mem_replicate ha]; trivial
   refine key (w.setRow (ρ.s j) (SV.concs ρ (List.replicate m (.v zv))++sp).toArray) ?_ ?_
   ·have hz2:=run_zeroV (P:=c.P) w g2 i3
    obtain ⟨m',rfl⟩ : ∃ m',m=m'+1:=⟨m-1,by omega⟩
    simp [execOp,hop,resolve,invoke,builtin,hx1,Builtin.clear_,hund,hz2,hzc,zeroCells_one,hst]
   ·refine hi.wi.write (o' := .row 1 m (List.replicate m (.v zv)) te) hj (by simp [SObj.occ,hh]) hscs (setRow_heap w _ _ _ _ _ hheap) (fun hheap' => ?_) (fun q hq=>setRow_other w _ _ _ hq) (setRow_size w _ _) rfl rfl rfl
    exact ⟨hoff,by simp,.inr ⟨cap,sp,hh,hcap,hheap'⟩⟩
end Go.Sx
namespace Go.Proofs.Ytnnlpdgnlccbjaa
open Go.Sx
set_option maxRecDepth 100000
set_option maxHeartbeats 4000000
def prepChk (n:Net) (l:List Evt) (ticks lim:Int):Int:=if netChk n≠0 then netChk n else if wi ticks 0 lim=false then 3 else evsChk n.inp lim l
theorem prepared_run (vN vS:Value) (n:Net) (vE:Value) (l:List Evt) (ticks lim:Int) (w:World) (hn:IsNet w vN vS n) (hr:RowsAt w vE 2 l.length (l.flatMap Evt.vals)) :
  Calls Try.prog 58 #[netV vN vS n,vE,.int .i64 ticks,.int .i64 lim] w fun e w'=>e = .returned (.int .i64 (prepChk n l ticks lim))∧Ext w w':=by
 have hpf:PF.oks Try.prog [(76,F3 fun n lo hi => .bool (wi n lo hi))]:=⟨nwithin_pure,trivial⟩
 have hc : ∀ L,Cx.ok ⟨Try.prog,tab,[(76,F3 fun n lo hi => .bool (wi n lo hi))],58,Try.f58,[],w,L,none⟩:=fun L=>⟨tab_ok,hpf,Try.func58,mixed,fun _ h=>by cases h⟩
 obtain ⟨h1,h2⟩:=hn
 obtain ⟨N,inp,S⟩:=n
 simp only at h1 h2
 have hrows:AllP (fun x:Value × Nat × Nat × List Value=>RowsAt w x.1 x.2.1 x.2.2.1 x.2.2.2) [(vN,8,N.length,N.flatMap Prm.vals),(vS,4,S.length,S.flatMap Syn.vals),(vE,2,l.length,l.flatMap Evt.vals)]:=⟨h1,h2,hr,trivial⟩
 refine Run.startW Try.func58 rfl _ hrows [.agg [.opq 0,ii inp,.opq 1],.opq 2,ii ticks,ii lim] [netV vN vS ⟨N,inp,S⟩,vE,.int .i64 ticks,.int .i64 lim] [(0,.rwin 8 N.length (N.flatMap Prm.vals)),(1,.rwin 4 S.length (S.flatMap Syn.vals)),(2,.rwin 2 l.length (l.flatMap Evt.vals))] 3 rfl rfl
  (by show [Value.agg [(SV.opq 0).conc _,.int .i64 inp,(SV.opq 1).conc _].toArray,(SV.opq 2).conc _,_,_]=_; rw [conc_rows hrows (k:=0) rfl,conc_rows hrows (k:=1) rfl,conc_rows hrows (k:=2) rfl]; rfl) (by simp [SV.scs,SV.sc]) rfl (Run.of_wpK (hc _) 1000 _ ?_)
 conv=>whnf
 obtain ⟨ck,hck⟩ : ∃ ck,netChk ⟨N,inp,S⟩=ck:=⟨_,rfl⟩
 refine Run.callE (g:=42) (vs:=[.agg [.opq 0,ii inp,.opq 1]]) (caps:=[]) (ii ck) (fun ρ w1 hW=>by
  rw [← hck]
  exact netCheck_run ((SV.opq 0).conc ρ) ((SV.opq 1).conc ρ) ⟨N,inp,S⟩ w1 ⟨hW.rowsAt rfl,hW.rowsAt rfl⟩) (ent _ _ Try.func42 (by kernel_rfl) rfl) rfl rfl rfl rfl rfl rfl rfl trivial ?_
 refine Run.of_wpK (hc _) 1000 _ ?_
 conv=>whnf
 cases e1:ck != 0
 case true =>
  conv=>whnf
  have e1':ck≠0:=by simpa using e1
  exact ⟨fun ρ w' hW _=>⟨by unfold prepChk; rw [hck,if_pos e1']; rfl,hW.toExt⟩⟩
 have e1' : ¬ ck≠0:=by simpa using e1
 conv=>whnf
 cases e2:wi ticks 0 lim
 case false =>
  conv=>whnf
  exact ⟨fun ρ w' hW _=>⟨by unfold prepChk; rw [hck,if_neg e1',if_pos e2]; rfl,hW.toExt⟩⟩
 conv=>whnf
 refine Run.callE (g:=91) (vs:=[.agg [.opq 0,ii inp,.opq 1],.opq 2,ii lim]) (caps:=[]) (ii (evsChk inp lim l)) (fun ρ w1 hW =>
  nordered_run ((SV.opq 0).conc ρ) ((SV.opq 1).conc ρ) ⟨N,inp,S⟩ ((SV.opq 2).conc ρ) l lim w1 ⟨hW.rowsAt rfl,hW.rowsAt rfl⟩ (hW.rowsAt rfl)) (ent _ _ Try.func91 (by kernel_rfl) rfl) rfl rfl rfl rfl rfl rfl rfl trivial ?_
 obtain ⟨ek,hek⟩ : ∃ ek,evsChk inp lim l=ek:=⟨_,rfl⟩
 rw [hek]
 refine Run.of_wpK (hc _) 1000 _ ?_
 conv=>whnf
 exact ⟨fun ρ w' hW _=>⟨by unfold prepChk; rw [hck,if_neg e1',if_neg (by rw [e2]; decide),hek]; rfl,hW.toExt⟩⟩
theorem wired_run (p:Option Addr) (m cap:Nat) (inp:Int) (w:World):Calls Try.prog 92 #[.agg #[.slice p m cap,.int .i64 inp,.slice none 0 0]] w fun en w' => ∃ b,en = .returned (.map (some b))∧Ext w w'∧w.heap.size≤b∧w'.heap[b]? = some (kobj []):=by
 have hc : ∀ L,Cx.ok ⟨Try.prog,tab,[],92,Try.f92,[],w,L,none⟩:=fun L=>⟨tab_ok,trivial,Try.func92,mixed,fun _ h=>by cases h⟩
 refine Run.start0 (tab:=tab) (pf:=[]) (cuts:=[]) mixed tab_ok trivial Try.func92 rfl [.agg [.v (.slice p m cap),ii inp,.v (.slice none 0 0)]] 100 (by simp [SV.scs,SV.sc]) rfl ?_
 conv=>whnf
 refine Run.of_wpK (hc _) 100 _ ?_
 conv=>whnf
 refine ⟨fun ρ w' hW _ => ?_⟩
 obtain ⟨_,_,_,hm⟩:=hW.mem 1 _ rfl
 rcases hm with ⟨h0,h1⟩ | ⟨h0,_⟩
 ·refine ⟨ρ.s 1,by show Ending.returned (.map (if ρ.o 1=0 then some (ρ.s 1) else none))=_; rw [if_pos h0],hW.toExt,?_,h1⟩
  rcases hW.new 1 _ rfl h0 with ⟨p,hp,_⟩ | h
  ·cases hp
  ·exact h
 ·cases h0
def FWire:Mem→List SV→Option (List Nat × SV):=fun _ args=>match args with
 | [.agg [.opq _,.v (.int .i64 _),.v (.slice none 0 0)]]=>some ([],.v (.bool false))
 | _=>none
theorem mk_wired:Maker Try.prog 92 FWire where
 ent:=ent _ _ Try.func92 (by kernel_rfl) rfl
 cong M M' args hb:=rfl
 run w0 L ρ M S args e m te xs w hW hF hs:=by
  exfalso
  unfold FWire at hF
  split at hF <;> cases hF
 runM w0 L ρ M S args pk w hW hF hs:=by
  unfold FWire at hF
  split at hF
  case h_2=>cases hF
  obtain rfl:false=pk:=by simpa using hF
  exact wired_run _ _ _ _ w
end Go.Proofs.Ytnnlpdgnlccbjaa
namespace Go.Proofs.Ytnnlpdgnlccbjaa
open Go.Sx
set_option maxRecDepth 100000
set_option maxHeartbeats 4000000
def simC (inp tk:Int):List SV:=[.opq 1,ii inp,.v (.slice none 0 0),.mp 2,ii tk,.opq 3,.opq 4,.opq 5,.opq 6,.opq 7,.opq 8,.opq 9,.opq 10,.opq 11,.opq 12,.opq 13,.opq 14,.opq 15,.opq 16,.opq 17,.opq 18,.opq 19]
theorem simC_sc (inp tk:Int):SV.scs (· < 20) (simC inp tk):=by simp [simC,SV.scs,SV.sc]
theorem row_spec (inp tk:Int) (h0:0≤tk) (h1:tk<4611686018427387904):BSpec Try.prog 93 [.ptr 0 0,ii 0] [(0,.cells (simC inp tk) 170)] 20 [0] (.opq (4+slotN tk)) [(0,.cells (simC inp tk) 170)] 20:=by
 have hc : ∀ w L' rd,(∀ p,rd=some p→p∈L')→Cx.ok ⟨Try.prog,tab,[],93,Try.f93,[],w,L',rd⟩:=fun w L' rd h=>⟨tab_ok,trivial,Try.func93,mixed,h⟩
 refine BSpec.start (tab:=tab) (pf:=[]) (cuts:=[]) Try.func93 rfl ⟨(show 0<20 by decide),trivial,trivial⟩ rfl fun w L0 plp hL hLB hcov=>Run.of_wpK (hc w L0 none (fun _ h=>by cases h)) 100 _ ?_
 conv=>whnf
 refine Run.draw (hc w L0 none (fun _ h=>by cases h)) 13 ?_
 rw [show upto 0 13=upto 0 8++upto 8 5 from rfl]
 simp only [drawK_app]
 conv=>whnf
 refine ⟨by decide,?_⟩
 have hw:IntKind.i64.wrap (tk+0)=tk:=by rw [Int.add_zero]; exact W_id (by omega) (by omega)
 rw [hw,slotN_eq h0]
 have hk16:=slotN_lt (t:=tk)
 generalize slotN tk=k at hk16 ⊢
 conv=>whnf
 refine ⟨by omega,?_⟩
 conv=>whnf
 rw [opF_loadC (c := .opq (4+k)) rfl rfl rfl rfl (by rw [idx_nat]; rcases lt16 hk16 with rfl | rfl | rfl | rfl | rfl | rfl | rfl | rfl | rfl | rfl | rfl | rfl | rfl | rfl | rfl | rfl <;> rfl)]
 conv=>whnf
 refine ⟨by kernel_rfl,?_⟩
 refine Run.of_wpK (hc w L0 none (fun _ h=>by cases h)) 1000 _ ?_
 conv=>whnf
 exact SpecR.intro 21 (by decide) hLB (by decide) hcov rfl (by show SV.opq (sh 20 21 (4+k))=_; rw [sh_lt (by omega)]) (show 4+k<20 by omega) ⟨⟨by rw [oren_fix (S:=(· < 20)) (fun i hi=>sh_fix i hi) (o := .cells (simC inp tk) 170) (simC_sc _ _)]; rfl,by omega,simC_sc _ _⟩,trivial⟩
theorem from_spec:BSpec Try.prog 94 [.mp 0,.v (.slice none 0 0),.opq 1] [] 2 [] (.fn 106 [.ptr 2 0,.ptr 3 0,.ptr 4 0]) [(2,.cells [.mp 0] 165),(3,.cells [.v (.slice none 0 0)] 27),(4,.cells [.opq 1] 27)] 5:=by
 have hc : ∀ w L' rd,(∀ p,rd=some p→p∈L')→Cx.ok ⟨Try.prog,tab,[],94,Try.f94,[],w,L',rd⟩:=fun w L' rd h=>⟨tab_ok,trivial,Try.func94,mixed,h⟩
 refine BSpec.start (tab:=tab) (pf:=[]) (cuts:=[]) Try.func94 rfl ⟨(show 0<2 by decide),trivial,(show 1<2 by decide),trivial⟩ rfl fun w L0 plp hL hLB hcov=>Run.of_wpK (hc w L0 none (fun _ h=>by cases h)) 100 _ ?_
 conv=>whnf
 exact SpecR.intro 3 (by decide) hLB (by decide) hcov rfl rfl ⟨(show 2<5 by decide),(show 3<5 by decide),(show 4<5 by decide),trivial⟩ ⟨⟨rfl,by omega,by simp [SObj.sc,SV.scs,SV.sc]⟩,⟨rfl,by omega,by simp [SObj.sc,SV.scs,SV.sc]⟩,⟨rfl,by omega,by simp [SObj.sc,SV.scs,SV.sc]⟩,trivial⟩
theorem each_spec (a:Int):BSpec Try.prog 107 [ii a,.ptr 1 0,.ptr 2 0] [(0,.kwin false []),(1,.cells [.mp 0] 165)] 3 [1] (.v (.bool true)) [(1,.cells [.mp 0] 165)] 3:=by
 have hc : ∀ w L' rd,(∀ p,rd=some p→p∈L')→Cx.ok ⟨Try.prog,tab,[],107,Try.f107,[],w,L',rd⟩:=fun w L' rd h=>⟨tab_ok,trivial,Try.func107,mixed,h⟩
 refine BSpec.start (tab:=tab) (pf:=[]) (cuts:=[]) Try.func107 rfl ⟨trivial,(show 1<3 by decide),(show 2<3 by decide),trivial⟩ rfl fun w L0 plp hL hLB hcov=>Run.of_wpK (hc w L0 none (fun _ h=>by cases h)) 100 _ ?_
 conv=>whnf
 refine Run.of_wpK (hc w L0 none (fun _ h=>by cases h)) 1000 _ ?_
 conv=>whnf
 exact SpecR.intro 4 (by decide) hLB (by decide) hcov rfl rfl trivial ⟨⟨rfl,by omega,by simp [SObj.sc,SV.scs,SV.sc]⟩,trivial⟩
def prm1:Prm:=⟨0,0,0,1,0,0,0,0⟩
abbrev pfStart:PF:=[(64+1000,FCl 8 60),(92+1000,FWire)]
theorem pfStart_ok:PF.oks Try.prog pfStart:=⟨mk_params,mk_wired,trivial⟩
def startR (inp:Int):List (Nat × SObj):=[(1,.cells [.opq 2,ii inp,.v (.slice none 0 0),.mp 3,ii 0,.opq 4,.opq 5,.opq 6,.opq 7,.opq 8,.opq 9,.opq 10,.opq 11,.opq 12,.opq 13,.opq 14,.opq 15,.opq 16,.opq 17,.opq 18,.opq 19,.opq 20] 170),(2,.row 8 1 (([prm1].flatMap Prm.vals).map .v) 60),(3,.kmap false true []),(4,.row 2 1 [ii 0,ii 0] 139),(5,.row 1 1 [ii 0] 3),(6,.row 1 1 [ii 0] 3),(7,.row 1 1 [ii 0] 3),(8,.row 1 1 [ii 0] 3),(9,.row 1 1 [ii 0] 3),(10,.row 1 1 [ii 0] 3),(11,.row 1 1 [ii 0] 3),(12,.row 1 1 [ii 0] 3),(13,.row 1 1 [ii 0] 3),(14,.row 1 1 [ii 0] 3),(15,.row 1 1 [ii 0] 3),(16,.row 1 1 [ii 0] 3),(17,.row 1 1 [ii 0] 3),(18,.row 1 1 [ii 0] 3),(19,.row 1 1 [ii 0] 3),(20,.row 1 1 [ii 0] 3)]
theorem start_spec (inp:Int):BSpec Try.prog 59 [.agg [.opq 0,ii inp,.v (.slice none 0 0)]] [(0,.rwin 8 1 ([prm1].flatMap Prm.vals))] 1 [] (.ptr 1 0) (startR inp) 21:=by
 have hc : ∀ w L' rd,(∀ p,rd=some p→p∈L')→Cx.ok ⟨Try.prog,tab,pfStart,59,Try.f59,[],w,L',rd⟩:=fun w L' rd h=>⟨tab_ok,pfStart_ok,Try.func59,mixed,h⟩
 refine BSpec.start (tab:=tab) (pf:=pfStart) (cuts:=[]) Try.func59 rfl ⟨⟨(show 0<1 by decide),trivial,trivial,trivial⟩,trivial⟩ rfl fun w L0 plp hL hLB hcov=>Run.of_wpK (hc w L0 none (fun _ h=>by cases h)) 100 _ ?_
 conv=>whnf
 refine Run.draw (hc w L0 none (fun _ h=>by cases h)) 10 ?_
 conv=>whnf
 refine ⟨by kernel_rfl,?_⟩
 refine Run.of_wpK (hc w L0 none (fun _ h=>by cases h)) 1000 _ ?_
 conv=>whnf
 refine Run.trim (T':=[(1,.ptr 2 0),(3,.ptr 12 0),(18,ii 0)]) (M':=[(12,.cells [.opq 3,ii inp,.v (.slice none 0 0),.mp 6,ii 0,.opq 10,.v (.slice none 0 0),.v (.slice none 0 0),.v (.slice none 0 0),.v (.slice none 0 0),.v (.slice none 0 0),.v (.slice none 0 0),.v (.slice none 0 0),.v (.slice none 0 0),.v (.slice none 0 0),.v (.slice none 0 0),.v (.slice none 0 0),.v (.slice none 0 0),.v (.slice none 0 0),.v (.slice none 0 0),.v (.slice none 0 0),.v (.slice none 0 0)] 170),(10,.row 2 1 [ii 0,ii 0] 139),(6,.kmap false true []),(2,.cells [.opq 3,ii inp,.v (.slice none 0 0)] 25),(3,.row 8 1 (([prm1].flatMap Prm.vals).map .v) 60),(1,.pin plp)]) 14 ⟨⟨rfl,(show 2<14 by decide)⟩,⟨rfl,(show 12<14 by decide)⟩,⟨rfl,trivial⟩,trivial⟩ ⟨⟨rfl,(show 12<14 by decide),by simp [SObj.sc,SV.scs,SV.sc]⟩,⟨rfl,(show 10<14 by decide),by simp [SObj.sc,SV.scs,SV.sc]⟩,⟨rfl,(show 6<14 by decide),trivial⟩,⟨rfl,(show 2<14 by decide),by simp [SObj.sc,SV.scs,SV.sc]⟩,⟨rfl,by omega,scs_v _ _⟩,⟨rfl,by omega,fun p hp=>Nat.lt_of_lt_of_le (hcov.1 p hp) (show 1≤14 by decide)⟩,trivial⟩ (fun p hp=>by have:=hLB p hp; omega) ?_
 refine Run.of_wpK (hc w L0 none (fun _ h=>by cases h)) 1000 _ ?_
 conv=>whnf
 refine Run.draw (hc w L0 none (fun _ h=>by cases h)) 10 ?_
 conv=>whnf
 refine ⟨by decide,?_⟩
 conv=>whnf
 refine ⟨by kernel_rfl,?_⟩
 refine Run.of_wpK (hc w L0 none (fun _ h=>by cases h)) 1000 _ ?_
 conv=>whnf
 refine Run.trim (T':=[(1,.ptr 2 0),(3,.ptr 12 0),(18,ii 1)]) (M':=[(12,.cells [.opq 3,ii inp,.v (.slice none 0 0),.mp 6,ii 0,.opq 10,.opq 19,.v (.slice none 0 0),.v (.slice none 0 0),.v (.slice none 0 0),.v (.slice none 0 0),.v (.slice none 0 0),.v (.slice none 0 0),.v (.slice none 0 0),.v (.slice none 0 0),.v (.slice none 0 0),.v (.slice none 0 0),.v (.slice none 0 0),.v (.slice none 0 0),.v (.slice none 0 0),.v (.slice none 0 0),.v (.slice none 0 0)] 170),(19,.row 1 1 [ii 0] 3),(10,.row 2 1 [ii 0,ii 0] 139),(6,.kmap false true []),(2,.cells [.opq 3,ii inp,.v (.slice none 0 0)] 25),(3,.row 8 1 (([prm1].flatMap Prm.vals).map .v) 60),(1,.pin plp)]) 24 ⟨⟨rfl,(show 2<24 by decide)⟩,⟨rfl,(show 12<24 by decide)⟩,⟨rfl,trivial⟩,trivial⟩ ⟨⟨rfl,(show 12<24 by decide),by simp [SObj.sc,SV.scs,SV.sc]⟩,⟨rfl,(show 19<24 by decide),by simp [SObj.sc,SV.scs,SV.sc]⟩,⟨rfl,(show 10<24 by decide),by simp [SObj.sc,SV.scs,SV.sc]⟩,⟨rfl,(show 6<24 by decide),trivial⟩,⟨rfl,(show 2<24 by decide),by simp [SObj.sc,SV.scs,SV.sc]⟩,⟨rfl,by omega,scs_v _ _⟩,⟨rfl,by omega,fun p hp=>Nat.lt_of_lt_of_le (hcov.1 p hp) (show 1≤24 by decide)⟩,trivial⟩ (fun p hp=>by have:=hLB p hp; omega) ?_
 refine Run.of_wpK (hc w L0 none (fun _ h=>by cases h)) 1000 _ ?_
 conv=>whnf
 refine Run.draw (hc w L0 none (fun _ h=>by cases h)) 10 ?_
 conv=>whnf
 refine ⟨by decide,?_⟩
 conv=>whnf
 refine ⟨by kernel_rfl,?_⟩
 refine Run.of_wpK (hc w L0 none (fun _ h=>by cases h)) 1000 _ ?_
 conv=>whnf
 refine Run.trim (T':=[(1,.ptr 2 0),(3,.ptr 12 0),(18,ii 2)]) (M':=[(12,.cells [.opq 3,ii inp,.v (.slice none 0 0),.mp 6,ii 0,.opq 10,.opq 19,.opq 29,.v (.slice none 0 0),.v (.slice none 0 0),.v (.slice none 0 0),.v (.slice none 0 0),.v (.slice none 0 0),.v (.slice none 0 0),.v (.slice none 0 0),.v (.slice none 0 0),.v (.slice none 0 0),.v (.slice none 0 0),.v (.slice none 0 0),.v (.slice none 0 0),.v (.slice none 0 0),.v (.slice none 0 0)] 170),(19,.row 1 1 [ii 0] 3),(29,.row 1 1 [ii 0] 3),(10,.row 2 1 [ii 0,ii 0] 139),(6,.kmap false true []),(2,.cells [.opq 3,ii inp,.v (.slice none 0 0)] 25),(3,.row 8 1 (([prm1].flatMap Prm.vals).map .v) 60),(1,.pin plp)]) 34 ⟨⟨rfl,(show 2<34 by decide)⟩,⟨rfl,(show 12<34 by decide)⟩,⟨rfl,trivial⟩,trivial⟩ ⟨⟨rfl,(show 12<34 by decide),by simp [SObj.sc,SV.scs,SV.sc]⟩,⟨rfl,(show 19<34 by decide),by simp [SObj.sc,SV.scs,SV.sc]⟩,⟨rfl,(show 29<34 by decide),by simp [SObj.sc,SV.scs,SV.sc]⟩,⟨rfl,(show 10<34 by decide),by simp [SObj.sc,SV.scs,SV.sc]⟩,⟨rfl,(show 6<34 by decide),trivial⟩,⟨rfl,(show 2<34 by decide),by simp [SObj.sc,SV.scs,SV.sc]⟩,⟨rfl,by omega,scs_v _ _⟩,⟨rfl,by omega,fun p hp=>Nat.lt_of_lt_of_le (hcov.1 p hp) (show 1≤34 by decide)⟩,trivial⟩ (fun p hp=>by have:=hLB p hp; omega) ?_
 refine Run.of_wpK (hc w L0 none (fun _ h=>by cases h)) 1000 _ ?_
 conv=>whnf
 refine Run.draw (hc w L0 none (fun _ h=>by cases h)) 10 ?_
 conv=>whnf
 refine ⟨by decide,?_⟩
 conv=>whnf
 refine ⟨by kernel_rfl,?_⟩
 refine Run.of_wpK (hc w L0 none (fun _ h=>by cases h)) 1000 _ ?_
 conv=>whnf
 refine Run.trim (T':=[(1,.ptr 2 0),(3,.ptr 12 0),(18,ii 3)]) (M':=[(12,.cells [.opq 3,ii inp,.v (.slice none 0 0),.mp 6,ii 0,.opq 10,.opq 19,.opq 29,.opq 39,.v (.slice none 0 0),.v (.slice none 0 0),.v (.slice none 0 0),.v (.slice none 0 0),.v (.slice none 0 0),.v (.slice none 0 0),.v (.slice none 0 0),.v (.slice none 0 0),.v (.slice none 0 0),.v (.slice none 0 0),.v (.slice none 0 0),.v (.slice none 0 0),.v (.slice none 0 0)] 170),(19,.row 1 1 [ii 0] 3),(29,.row 1 1 [ii 0] 3),(39,.row 1 1 [ii 0] 3),(10,.row 2 1 [ii 0,ii 0] 139),(6,.kmap false true []),(2,.cells [.opq 3,ii inp,.v (.slice none 0 0)] 25),(3,.row 8 1 (([prm1].flatMap Prm.vals).map .v) 60),(1,.pin plp)]) 44 ⟨⟨rfl,(show 2<44 by decide)⟩,⟨rfl,(show 12<44 by decide)⟩,⟨rfl,trivial⟩,trivial⟩ ⟨⟨rfl,(show 12<44 by decide),by simp [SObj.sc,SV.scs,SV.sc]⟩,⟨rfl,(show 19<44 by decide),by simp [SObj.sc,SV.scs,SV.sc]⟩,⟨rfl,(show 29<44 by decide),by simp [SObj.sc,SV.scs,SV.sc]⟩,⟨rfl,(show 39<44 by decide),by simp [SObj.sc,SV.scs,SV.sc]⟩,⟨rfl,(show 10<44 by decide),by simp [SObj.sc,SV.scs,SV.sc]⟩,⟨rfl,(show 6<44 by decide),trivial⟩,⟨rfl,(show 2<44 by decide),by simp [SObj.sc,SV.scs,SV.sc]⟩,⟨rfl,by omega,scs_v _ _⟩,⟨rfl,by omega,fun p hp=>Nat.lt_of_lt_of_le (hcov.1 p hp) (show 1≤44 by decide)⟩,trivial⟩ (fun p hp=>by have:=hLB p hp; omega) ?_
 refine Run.of_wpK (hc w L0 none (fun _ h=>by cases h)) 1000 _ ?_
 conv=>whnf
 refine Run.draw (hc w L0 none (fun _ h=>by cases h)) 10 ?_
 conv=>whnf
 refine ⟨by decide,?_⟩
 conv=>whnf
 refine ⟨by kernel_rfl,?_⟩
 refine Run.of_wpK (hc w L0 none (fun _ h=>by cases h)) 1000 _ ?_
 conv=>whnf
 refine Run.trim (T':=[(1,.ptr 2 0),(3,.ptr 12 0),(18,ii 4)]) (M':=[(12,.cells [.opq 3,ii inp,.v (.slice none 0 0),.mp 6,ii 0,.opq 10,.opq 19,.opq 29,.opq 39,.opq 49,.v (.slice none 0 0),.v (.slice none 0 0),.v (.slice none 0 0),.v (.slice none 0 0),.v (.slice none 0 0),.v (.slice none 0 0),.v (.slice none 0 0),.v (.slice none 0 0),.v (.slice none 0 0),.v (.slice none 0 0),.v (.slice none 0 0),.v (.slice none 0 0)] 170),(19,.row 1 1 [ii 0] 3),(29,.row 1 1 [ii 0] 3),(39,.row 1 1 [ii 0] 3),(49,.row 1 1 [ii 0] 3),(10,.row 2 1 [ii 0,ii 0] 139),(6,.kmap false true []),(2,.cells [.opq 3,ii inp,.v (.slice none 0 0)] 25),(3,.row 8 1 (([prm1].flatMap Prm.vals).map .v) 60),(1,.pin plp)]) 54 ⟨⟨rfl,(show 2<54 by decide)⟩,⟨rfl,(show 12<54 by decide)⟩,⟨rfl,trivial⟩,trivial⟩ ⟨⟨rfl,(show 12<54 by decide),by simp [SObj.sc,SV.scs,SV.sc]⟩,⟨rfl,(show 19<54 by decide),by simp [SObj.sc,SV.scs,SV.sc]⟩,⟨rfl,(show 29<54 by decide),by simp [SObj.sc,SV.scs,SV.sc]⟩,⟨rfl,(show 39<54 by decide),by simp [SObj.sc,SV.scs,SV.sc]⟩,⟨rfl,(show 49<54 by decide),by simp [SObj.sc,SV.scs,SV.sc]⟩,⟨rfl,(show 10<54 by decide),by simp [SObj.sc,SV.scs,SV.sc]⟩,⟨rfl,(show 6<54 by decide),trivial⟩,⟨rfl,(show 2<54 by decide),by simp [SObj.sc,SV.scs,SV.sc]⟩,⟨rfl,by omega,scs_v _ _⟩,⟨rfl,by omega,fun p hp=>Nat.lt_of_lt_of_le (hcov.1 p hp) (show 1≤54 by decide)⟩,trivial⟩ (fun p hp=>by have:=hLB p hp; omega) ?_
 refine Run.of_wpK (hc w L0 none (fun _ h=>by cases h)) 1000 _ ?_
 conv=>whnf
 refine Run.draw (hc w L0 none (fun _ h=>by cases h)) 10 ?_
 conv=>whnf
 refine ⟨by decide,?_⟩
 conv=>whnf
 refine ⟨by kernel_rfl,?_⟩
 refine Run.of_wpK (hc w L0 none (fun _ h=>by cases h)) 1000 _ ?_
 conv=>whnf
 refine Run.trim (T':=[(1,.ptr 2 0),(3,.ptr 12 0),(18,ii 5)]) (M':=[(12,.cells [.opq 3,ii inp,.v (.slice none 0 0),.mp 6,ii 0,.opq 10,.opq 19,.opq 29,.opq 39,.opq 49,.opq 59,.v (.slice none 0 0),.v (.slice none 0 0),.v (.slice none 0 0),.v (.slice none 0 0),.v (.slice none 0 0),.v (.slice none 0 0),.v (.slice none 0 0),.v (.slice none 0 0),.v (.slice none 0 0),.v (.slice none 0 0),.v (.slice none 0 0)] 170),(19,.row 1 1 [ii 0] 3),(29,.row 1 1 [ii 0] 3),(39,.row 1 1 [ii 0] 3),(49,.row 1 1 [ii 0] 3),(59,.row 1 1 [ii 0] 3),(10,.row 2 1 [ii 0,ii 0] 139),(6,.kmap false true []),(2,.cells [.opq 3,ii inp,.v (.slice none 0 0)] 25),(3,.row 8 1 (([prm1].flatMap Prm.vals).map .v) 60),(1,.pin plp)]) 64 ⟨⟨rfl,(show 2<64 by decide)⟩,⟨rfl,(show 12<64 by decide)⟩,⟨rfl,trivial⟩,trivial⟩ ⟨⟨rfl,(show 12<64 by decide),by simp [SObj.sc,SV.scs,SV.sc]⟩,⟨rfl,(show 19<64 by decide),by simp [SObj.sc,SV.scs,SV.sc]⟩,⟨rfl,(show 29<64 by decide),by simp [SObj.sc,SV.scs,SV.sc]⟩,⟨rfl,(show 39<64 by decide),by simp [SObj.sc,SV.scs,SV.sc]⟩,⟨rfl,(show 49<64 by decide),by simp [SObj.sc,SV.scs,SV.sc]⟩,⟨rfl,(show 59<64 by decide),by simp [SObj.sc,SV.scs,SV.sc]⟩,⟨rfl,(show 10<64 by decide),by simp [SObj.sc,SV.scs,SV.sc]⟩,⟨rfl,(show 6<64 by decide),trivial⟩,⟨rfl,(show 2<64 by decide),by simp [SObj.sc,SV.scs,SV.sc]⟩,⟨rfl,by omega,scs_v _ _⟩,⟨rfl,by omega,fun p hp=>Nat.lt_of_lt_of_le (hcov.1 p hp) (show 1≤64 by decide)⟩,trivial⟩ (fun p hp=>by have:=hLB p hp; omega) ?_
 refine Run.of_wpK (hc w L0 none (fun _ h=>by cases h)) 1000 _ ?_
 conv=>whnf
 refine Run.draw (hc w L0 none (fun _ h=>by cases h)) 10 ?_
 conv=>whnf
 refine ⟨by decide,?_⟩
 conv=>whnf
 refine ⟨by kernel_rfl,?_⟩
 refine Run.of_wpK (hc w L0 none (fun _ h=>by cases h)) 1000 _ ?_
 conv=>whnf
 refine Run.trim (T':=[(1,.ptr 2 0),(3,.ptr 12 0),(18,ii 6)]) (M':=[(12,.cells [.opq 3,ii inp,.v (.slice none 0 0),.mp 6,ii 0,.opq 10,.opq 19,.opq 29,.opq 39,.opq 49,.opq 59,.opq 69,.v (.slice none 0 0),.v (.slice none 0 0),.v (.slice none 0 0),.v (.slice none 0 0),.v (.slice none 0 0),.v (.slice none 0 0),.v (.slice none 0 0),.v (.slice none 0 0),.v (.slice none 0 0),.v (.slice none 0 0)] 170),(19,.row 1 1 [ii 0] 3),(29,.row 1 1 [ii 0] 3),(39,.row 1 1 [ii 0] 3),(49,.row 1 1 [ii 0] 3),(59,.row 1 1 [ii 0] 3),(69,.row 1 1 [ii 0] 3),(10,.row 2 1 [ii 0,ii 0] 139),(6,.kmap false true []),(2,.cells [.opq 3,ii inp,.v (.slice none 0 0)] 25),(3,.row 8 1 (([prm1].flatMap Prm.vals).map .v) 60),(1,.pin plp)]) 74 ⟨⟨rfl,(show 2<74 by decide)⟩,⟨rfl,(show 12<74 by decide)⟩,⟨rfl,trivial⟩,trivial⟩ ⟨⟨rfl,(show 12<74 by decide),by simp [SObj.sc,SV.scs,SV.sc]⟩,⟨rfl,(show 19<74 by decide),by simp [SObj.sc,SV.scs,SV.sc]⟩,⟨rfl,(show 29<74 by decide),by simp [SObj.sc,SV.scs,SV.sc]⟩,⟨rfl,(show 39<74 by decide),by simp [SObj.sc,SV.scs,SV.sc]⟩,⟨rfl,(show 49<74 by decide),by simp [SObj.sc,SV.scs,SV.sc]⟩,⟨rfl,(show 59<74 by decide),by simp [SObj.sc,SV.scs,SV.sc]⟩,⟨rfl,(show 69<74 by decide),by simp [SObj.sc,SV.scs,SV.sc]⟩,⟨rfl,(show 10<74 by decide),by simp [SObj.sc,SV.scs,SV.sc]⟩,⟨rfl,(show 6<74 by decide),trivial⟩,⟨rfl,(show 2<74 by decide),by simp [SObj.sc,SV.scs,SV.sc]⟩,⟨rfl,by omega,scs_v _ _⟩,⟨rfl,by omega,fun p hp=>Nat.lt_of_lt_of_le (hcov.1 p hp) (show 1≤74 by decide)⟩,trivial⟩ (fun p hp=>by have:=hLB p hp; omega) ?_
 refine Run.of_wpK (hc w L0 none (fun _ h=>by cases h)) 1000 _ ?_
 conv=>whnf
 refine Run.draw (hc w L0 none (fun _ h=>by cases h)) 10 ?_
 conv=>whnf
 refine ⟨by decide,?_⟩
 conv=>whnf
 refine ⟨by kernel_rfl,?_⟩
 refine Run.of_wpK (hc w L0 none (fun _ h=>by cases h)) 1000 _ ?_
 conv=>whnf
 refine Run.trim (T':=[(1,.ptr 2 0),(3,.ptr 12 0),(18,ii 7)]) (M':=[(12,.cells [.opq 3,ii inp,.v (.slice none 0 0),.mp 6,ii 0,.opq 10,.opq 19,.opq 29,.opq 39,.opq 49,.opq 59,.opq 69,.opq 79,.v (.slice none 0 0),.v (.slice none 0 0),.v (.slice none 0 0),.v (.slice none 0 0),.v (.slice none 0 0),.v (.slice none 0 0),.v (.slice none 0 0),.v (.slice none 0 0),.v (.slice none 0 0)] 170),(19,.row 1 1 [ii 0] 3),(29,.row 1 1 [ii 0] 3),(39,.row 1 1 [ii 0] 3),(49,.row 1 1 [ii 0] 3),(59,.row 1 1 [ii 0] 3),(69,.row 1 1 [ii 0] 3),(79,.row 1 1 [ii 0] 3),(10,.row 2 1 [ii 0,ii 0] 139),(6,.kmap false true []),(2,.cells [.opq 3,ii inp,.v (.slice none 0 0)] 25),(3,.row 8 1 (([prm1].flatMap Prm.vals).map .v) 60),(1,.pin plp)]) 84 ⟨⟨rfl,(show 2<84 by decide)⟩,⟨rfl,(show 12<84 by decide)⟩,⟨rfl,trivial⟩,trivial⟩ ⟨⟨rfl,(show 12<84 by decide),by simp [SObj.sc,SV.scs,SV.sc]⟩,⟨rfl,(show 19<84 by decide),by simp [SObj.sc,SV.scs,SV.sc]⟩,⟨rfl,(show 29<84 by decide),by simp [SObj.sc,SV.scs,SV.sc]⟩,⟨rfl,(show 39<84 by decide),by simp [SObj.sc,SV.scs,SV.sc]⟩,⟨rfl,(show 49<84 by decide),by simp [SObj.sc,SV.scs,SV.sc]⟩,⟨rfl,(show 59<84 by decide),by simp [SObj.sc,SV.scs,SV.sc]⟩,⟨rfl,(show 69<84 by decide),by simp [SObj.sc,SV.scs,SV.sc]⟩,⟨rfl,(show 79<84 by decide),by simp [SObj.sc,SV.scs,SV.sc]⟩,⟨rfl,(show 10<84 by decide),by simp [SObj.sc,SV.scs,SV.sc]⟩,⟨rfl,(show 6<84 by decide),trivial⟩,⟨rfl,(show 2<84 by decide),by simp [SObj.sc,SV.scs,SV.sc]⟩,⟨rfl,by omega,scs_v _ _⟩,⟨rfl,by omega,fun p hp=>Nat.lt_of_lt_of_le (hcov.1 p hp) (show 1≤84 by decide)⟩,trivial⟩ (fun p hp=>by have:=hLB p hp; omega) ?_
 refine Run.of_wpK (hc w L0 none (fun _ h=>by cases h)) 1000 _ ?_
 conv=>whnf
 refine Run.draw (hc w L0 none (fun _ h=>by cases h)) 10 ?_
 conv=>whnf
 refine ⟨by decide,?_⟩
 conv=>whnf
 refine ⟨by kernel_rfl,?_⟩
 refine Run.of_wpK (hc w L0 none (fun _ h=>by cases h)) 1000 _ ?_
 conv=>whnf
 refine Run.trim (T':=[(1,.ptr 2 0),(3,.ptr 12 0),(18,ii 8)]) (M':=[(12,.cells [.opq 3,ii inp,.v (.slice none 0 0),.mp 6,ii 0,.opq 10,.opq 19,.opq 29,.opq 39,.opq 49,.opq 59,.opq 69,.opq 79,.opq 89,.v (.slice none 0 0),.v (.slice none 0 0),.v (.slice none 0 0),.v (.slice none 0 0),.v (.slice none 0 0),.v (.slice none 0 0),.v (.slice none 0 0),.v (.slice none 0 0)] 170),(19,.row 1 1 [ii 0] 3),(29,.row 1 1 [ii 0] 3),(39,.row 1 1 [ii 0] 3),(49,.row 1 1 [ii 0] 3),(59,.row 1 1 [ii 0] 3),(69,.row 1 1 [ii 0] 3),(79,.row 1 1 [ii 0] 3),(89,.row 1 1 [ii 0] 3),(10,.row 2 1 [ii 0,ii 0] 139),(6,.kmap false true []),(2,.cells [.opq 3,ii inp,.v (.slice none 0 0)] 25),(3,.row 8 1 (([prm1].flatMap Prm.vals).map .v) 60),(1,.pin plp)]) 94 ⟨⟨rfl,(show 2<94 by decide)⟩,⟨rfl,(show 12<94 by decide)⟩,⟨rfl,trivial⟩,trivial⟩ ⟨⟨rfl,(show 12<94 by decide),by simp [SObj.sc,SV.scs,SV.sc]⟩,⟨rfl,(show 19<94 by decide),by simp [SObj.sc,SV.scs,SV.sc]⟩,⟨rfl,(show 29<94 by decide),by simp [SObj.sc,SV.scs,SV.sc]⟩,⟨rfl,(show 39<94 by decide),by simp [SObj.sc,SV.scs,SV.sc]⟩,⟨rfl,(show 49<94 by decide),by simp [SObj.sc,SV.scs,SV.sc]⟩,⟨rfl,(show 59<94 by decide),by simp [SObj.sc,SV.scs,SV.sc]⟩,⟨rfl,(show 69<94 by decide),by simp [SObj.sc,SV.scs,SV.sc]⟩,⟨rfl,(show 79<94 by decide),by simp [SObj.sc,SV.scs,SV.sc]⟩,⟨rfl,(show 89<94 by decide),by simp [SObj.sc,SV.scs,SV.sc]⟩,⟨rfl,(show 10<94 by decide),by simp [SObj.sc,SV.scs,SV.sc]⟩,⟨rfl,(show 6<94 by decide),trivial⟩,⟨rfl,(show 2<94 by decide),by simp [SObj.sc,SV.scs,SV.sc]⟩,⟨rfl,by omega,scs_v _ _⟩,⟨rfl,by omega,fun p hp=>Nat.lt_of_lt_of_le (hcov.1 p hp) (show 1≤94 by decide)⟩,trivial⟩ (fun p hp=>by have:=hLB p hp; omega) ?_
 refine Run.of_wpK (hc w L0 none (fun _ h=>by cases h)) 1000 _ ?_
 conv=>whnf
 refine Run.draw (hc w L0 none (fun _ h=>by cases h)) 10 ?_
 conv=>whnf
 refine ⟨by decide,?_⟩
 conv=>whnf
 refine ⟨by kernel_rfl,?_⟩
 refine Run.of_wpK (hc w L0 none (fun _ h=>by cases h)) 1000 _ ?_
 conv=>whnf
 refine Run.trim (T':=[(1,.ptr 2 0),(3,.ptr 12 0),(18,ii 9)]) (M':=[(12,.cells [.opq 3,ii inp,.v (.slice none 0 0),.mp 6,ii 0,.opq 10,.opq 19,.opq 29,.opq 39,.opq 49,.opq 59,.opq 69,.opq 79,.opq 89,.opq 99,.v (.slice none 0 0),.v (.slice none 0 0),.v (.slice none 0 0),.v (.slice none 0 0),.v (.slice none 0 0),.v (.slice none 0 0),.v (.slice none 0 0)] 170),(19,.row 1 1 [ii 0] 3),(29,.row 1 1 [ii 0] 3),(39,.row 1 1 [ii 0] 3),(49,.row 1 1 [ii 0] 3),(59,.row 1 1 [ii 0] 3),(69,.row 1 1 [ii 0] 3),(79,.row 1 1 [ii 0] 3),(89,.row 1 1 [ii 0] 3),(99,.row 1 1 [ii 0] 3),(10,.row 2 1 [ii 0,ii 0] 139),(6,.kmap false true []),(2,.cells [.opq 3,ii inp,.v (.slice none 0 0)] 25),(3,.row 8 1 (([prm1].flatMap Prm.vals).map .v) 60),(1,.pin plp)]) 104 ⟨⟨rfl,(show 2<104 by decide)⟩,⟨rfl,(show 12<104 by decide)⟩,⟨rfl,trivial⟩,trivial⟩ ⟨⟨rfl,(show 12<104 by decide),by simp [SObj.sc,SV.scs,SV.sc]⟩,⟨rfl,(show 19<104 by decide),by simp [SObj.sc,SV.scs,SV.sc]⟩,⟨rfl,(show 29<104 by decide),by simp [SObj.sc,SV.scs,SV.sc]⟩,⟨rfl,(show 39<104 by decide),by simp [SObj.sc,SV.scs,SV.sc]⟩,⟨rfl,(show 49<104 by decide),by simp [SObj.sc,SV.scs,SV.sc]⟩,⟨rfl,(show 59<104 by decide),by simp [SObj.sc,SV.scs,SV.sc]⟩,⟨rfl,(show 69<104 by decide),by simp [SObj.sc,SV.scs,SV.sc]⟩,⟨rfl,(show 79<104 by decide),by simp [SObj.sc,SV.scs,SV.sc]⟩,⟨rfl,(show 89<104 by decide),by simp [SObj.sc,SV.scs,SV.sc]⟩,⟨rfl,(show 99<104 by decide),by simp [SObj.sc,SV.scs,SV.sc]⟩,⟨rfl,(show 10<104 by decide),by simp [SObj.sc,SV.scs,SV.sc]⟩,⟨rfl,(show 6<104 by decide),trivial⟩,⟨rfl,(show 2<104 by decide),by simp [SObj.sc,SV.scs,SV.sc]⟩,⟨rfl,by omega,scs_v _ _⟩,⟨rfl,by omega,fun p hp=>Nat.lt_of_lt_of_le (hcov.1 p hp) (show 1≤104 by decide)⟩,trivial⟩ (fun p hp=>by have:=hLB p hp; omega) ?_
 refine Run.of_wpK (hc w L0 none (fun _ h=>by cases h)) 1000 _ ?_
 conv=>whnf
 refine Run.draw (hc w L0 none (fun _ h=>by cases h)) 10 ?_
 conv=>whnf
 refine ⟨by decide,?_⟩
 conv=>whnf
 refine ⟨by kernel_rfl,?_⟩
 refine Run.of_wpK (hc w L0 none (fun _ h=>by cases h)) 1000 _ ?_
 conv=>whnf
 refine Run.trim (T':=[(1,.ptr 2 0),(3,.ptr 12 0),(18,ii 10)]) (M':=[(12,.cells [.opq 3,ii inp,.v (.slice none 0 0),.mp 6,ii 0,.opq 10,.opq 19,.opq 29,.opq 39,.opq 49,.opq 59,.opq 69,.opq 79,.opq 89,.opq 99,.opq 109,.v (.slice none 0 0),.v (.slice none 0 0),.v (.slice none 0 0),.v (.slice none 0 0),.v (.slice none 0 0),.v (.slice none 0 0)] 170),(19,.row 1 1 [ii 0] 3),(29,.row 1 1 [ii 0] 3),(39,.row 1 1 [ii 0] 3),(49,.row 1 1 [ii 0] 3),(59,.row 1 1 [ii 0] 3),(69,.row 1 1 [ii 0] 3),(79,.row 1 1 [ii 0] 3),(89,.row 1 1 [ii 0] 3),(99,.row 1 1 [ii 0] 3),(109,.row 1 1 [ii 0] 3),(10,.row 2 1 [ii 0,ii 0] 139),(6,.kmap false true []),(2,.cells [.opq 3,ii inp,.v (.slice none 0 0)] 25),(3,.row 8 1 (([prm1].flatMap Prm.vals).map .v) 60),(1,.pin plp)]) 114 ⟨⟨rfl,(show 2<114 by decide)⟩,⟨rfl,(show 12<114 by decide)⟩,⟨rfl,trivial⟩,trivial⟩ ⟨⟨rfl,(show 12<114 by decide),by simp [SObj.sc,SV.scs,SV.sc]⟩,⟨rfl,(show 19<114 by decide),by simp [SObj.sc,SV.scs,SV.sc]⟩,⟨rfl,(show 29<114 by decide),by simp [SObj.sc,SV.scs,SV.sc]⟩,⟨rfl,(show 39<114 by decide),by simp [SObj.sc,SV.scs,SV.sc]⟩,⟨rfl,(show 49<114 by decide),by simp [SObj.sc,SV.scs,SV.sc]⟩,⟨rfl,(show 59<114 by decide),by simp [SObj.sc,SV.scs,SV.sc]⟩,⟨rfl,(show 69<114 by decide),by simp [SObj.sc,SV.scs,SV.sc]⟩,⟨rfl,(show 79<114 by decide),by simp [SObj.sc,SV.scs,SV.sc]⟩,⟨rfl,(show 89<114 by decide),by simp [SObj.sc,SV.scs,SV.sc]⟩,⟨rfl,(show 99<114 by decide),by simp [SObj.sc,SV.scs,SV.sc]⟩,⟨rfl,(show 109<114 by decide),by simp [SObj.sc,SV.scs,SV.sc]⟩,⟨rfl,(show 10<114 by decide),by simp [SObj.sc,SV.scs,SV.sc]⟩,⟨rfl,(show 6<114 by decide),trivial⟩,⟨rfl,(show 2<114 by decide),by simp [SObj.sc,SV.scs,SV.sc]⟩,⟨rfl,by omega,scs_v _ _⟩,⟨rfl,by omega,fun p hp=>Nat.lt_of_lt_of_le (hcov.1 p hp) (show 1≤114 by decide)⟩,trivial⟩ (fun p hp=>by have:=hLB p hp; omega) ?_
 refine Run.of_wpK (hc w L0 none (fun _ h=>by cases h)) 1000 _ ?_
 conv=>whnf
 refine Run.draw (hc w L0 none (fun _ h=>by cases h)) 10 ?_
 conv=>whnf
 refine ⟨by decide,?_⟩
 conv=>whnf
 refine ⟨by kernel_rfl,?_⟩
 refine Run.of_wpK (hc w L0 none (fun _ h=>by cases h)) 1000 _ ?_
 conv=>whnf
 refine Run.trim (T':=[(1,.ptr 2 0),(3,.ptr 12 0),(18,ii 11)]) (M':=[(12,.cells [.opq 3,ii inp,.v (.slice none 0 0),.mp 6,ii 0,.opq 10,.opq 19,.opq 29,.opq 39,.opq 49,.opq 59,.opq 69,.opq 79,.opq 89,.opq 99,.opq 109,.opq 119,.v (.slice none 0 0),.v (.slice none 0 0),.v (.slice none 0 0),.v (.slice none 0 0),.v (.slice none 0 0)] 170),(19,.row 1 1 [ii 0] 3),(29,.row 1 1 [ii 0] 3),(39,.row 1 1 [ii 0] 3),(49,.row 1 1 [ii 0] 3),(59,.row 1 1 [ii 0] 3),(69,.row 1 1 [ii 0] 3),(79,.row 1 1 [ii 0] 3),(89,.row 1 1 [ii 0] 3),(99,.row 1 1 [ii 0] 3),(109,.row 1 1 [ii 0] 3),(119,.row 1 1 [ii 0] 3),(10,.row 2 1 [ii 0,ii 0] 139),(6,.kmap false true []),(2,.cells [.opq 3,ii inp,.v (.slice none 0 0)] 25),(3,.row 8 1 (([prm1].flatMap Prm.vals).map .v) 60),(1,.pin plp)]) 124 ⟨⟨rfl,(show 2<124 by decide)⟩,⟨rfl,(show 12<124 by decide)⟩,⟨rfl,trivial⟩,trivial⟩ ⟨⟨rfl,(show 12<124 by decide),by simp [SObj.sc,SV.scs,SV.sc]⟩,⟨rfl,(show 19<124 by decide),by simp [SObj.sc,SV.scs,SV.sc]⟩,⟨rfl,(show 29<124 by decide),by simp [SObj.sc,SV.scs,SV.sc]⟩,⟨rfl,(show 39<124 by decide),by simp [SObj.sc,SV.scs,SV.sc]⟩,⟨rfl,(show 49<124 by decide),by simp [SObj.sc,SV.scs,SV.sc]⟩,⟨rfl,(show 59<124 by decide),by simp [SObj.sc,SV.scs,SV.sc]⟩,⟨rfl,(show 69<124 by decide),by simp [SObj.sc,SV.scs,SV.sc]⟩,⟨rfl,(show 79<124 by decide),by simp [SObj.sc,SV.scs,SV.sc]⟩,⟨rfl,(show 89<124 by decide),by simp [SObj.sc,SV.scs,SV.sc]⟩,⟨rfl,(show 99<124 by decide),by simp [SObj.sc,SV.scs,SV.sc]⟩,⟨rfl,(show 109<124 by decide),by simp [SObj.sc,SV.scs,SV.sc]⟩,⟨rfl,(show 119<124 by decide),by simp [SObj.sc,SV.scs,SV.sc]⟩,⟨rfl,(show 10<124 by decide),by simp [SObj.sc,SV.scs,SV.sc]⟩,⟨rfl,(show 6<124 by decide),trivial⟩,⟨rfl,(show 2<124 by decide),by simp [SObj.sc,SV.scs,SV.sc]⟩,⟨rfl,by omega,scs_v _ _⟩,⟨rfl,by omega,fun p hp=>Nat.lt_of_lt_of_le (hcov.1 p hp) (show 1≤124 by decide)⟩,trivial⟩ (fun p hp=>by have:=hLB p hp; omega) ?_
 refine Run.of_wpK (hc w L0 none (fun _ h=>by cases h)) 1000 _ ?_
 conv=>whnf
 refine Run.draw (hc w L0 none (fun _ h=>by cases h)) 10 ?_
 conv=>whnf
 refine ⟨by decide,?_⟩
 conv=>whnf
 refine ⟨by kernel_rfl,?_⟩
 refine Run.of_wpK (hc w L0 none (fun _ h=>by cases h)) 1000 _ ?_
 conv=>whnf
 refine Run.trim (T':=[(1,.ptr 2 0),(3,.ptr 12 0),(18,ii 12)]) (M':=[(12,.cells [.opq 3,ii inp,.v (.slice none 0 0),.mp 6,ii 0,.opq 10,.opq 19,.opq 29,.opq 39,.opq 49,.opq 59,.opq 69,.opq 79,.opq 89,.opq 99,.opq 109,.opq 119,.opq 129,.v (.slice none 0 0),.v (.slice none 0 0),.v (.slice none 0 0),.v (.slice none 0 0)] 170),(19,.row 1 1 [ii 0] 3),(29,.row 1 1 [ii 0] 3),(39,.row 1 1 [ii 0] 3),(49,.row 1 1 [ii 0] 3),(59,.row 1 1 [ii 0] 3),(69,.row 1 1 [ii 0] 3),(79,.row 1 1 [ii 0] 3),(89,.row 1 1 [ii 0] 3),(99,.row 1 1 [ii 0] 3),(109,.row 1 1 [ii 0] 3),(119,.row 1 1 [ii 0] 3),(129,.row 1 1 [ii 0] 3),(10,.row 2 1 [ii 0,ii 0] 139),(6,.kmap false true []),(2,.cells [.opq 3,ii inp,.v (.slice none 0 0)] 25),(3,.row 8 1 (([prm1].flatMap Prm.vals).map .v) 60),(1,.pin plp)]) 134 ⟨⟨rfl,(show 2<134 by decide)⟩,⟨rfl,(show 12<134 by decide)⟩,⟨rfl,trivial⟩,trivial⟩ ⟨⟨rfl,(show 12<134 by decide),by simp [SObj.sc,SV.scs,SV.sc]⟩,⟨rfl,(show 19<134 by decide),by simp [SObj.sc,SV.scs,SV.sc]⟩,⟨rfl,(show 29<134 by decide),by simp [SObj.sc,SV.scs,SV.sc]⟩,⟨rfl,(show 39<134 by decide),by simp [SObj.sc,SV.scs,SV.sc]⟩,⟨rfl,(show 49<134 by decide),by simp [SObj.sc,SV.scs,SV.sc]⟩,⟨rfl,(show 59<134 by decide),by simp [SObj.sc,SV.scs,SV.sc]⟩,⟨rfl,(show 69<134 by decide),by simp [SObj.sc,SV.scs,SV.sc]⟩,⟨rfl,(show 79<134 by decide),by simp [SObj.sc,SV.scs,SV.sc]⟩,⟨rfl,(show 89<134 by decide),by simp [SObj.sc,SV.scs,SV.sc]⟩,⟨rfl,(show 99<134 by decide),by simp [SObj.sc,SV.scs,SV.sc]⟩,⟨rfl,(show 109<134 by decide),by simp [SObj.sc,SV.scs,SV.sc]⟩,⟨rfl,(show 119<134 by decide),by simp [SObj.sc,SV.scs,SV.sc]⟩,⟨rfl,(show 129<134 by decide),by simp [SObj.sc,SV.scs,SV.sc]⟩,⟨rfl,(show 10<134 by decide),by simp [SObj.sc,SV.scs,SV.sc]⟩,⟨rfl,(show 6<134 by decide),trivial⟩,⟨rfl,(show 2<134 by decide),by simp [SObj.sc,SV.scs,SV.sc]⟩,⟨rfl,by omega,scs_v _ _⟩,⟨rfl,by omega,fun p hp=>Nat.lt_of_lt_of_le (hcov.1 p hp) (show 1≤134 by decide)⟩,trivial⟩ (fun p hp=>by have:=hLB p hp; omega) ?_
 refine Run.of_wpK (hc w L0 none (fun _ h=>by cases h)) 1000 _ ?_
 conv=>whnf
 refine Run.draw (hc w L0 none (fun _ h=>by cases h)) 10 ?_
 conv=>whnf
 refine ⟨by decide,?_⟩
 conv=>whnf
 refine ⟨by kernel_rfl,?_⟩
 refine Run.of_wpK (hc w L0 none (fun _ h=>by cases h)) 1000 _ ?_
 conv=>whnf
 refine Run.trim (T':=[(1,.ptr 2 0),(3,.ptr 12 0),(18,ii 13)]) (M':=[(12,.cells [.opq 3,ii inp,.v (.slice none 0 0),.mp 6,ii 0,.opq 10,.opq 19,.opq 29,.opq 39,.opq 49,.opq 59,.opq 69,.opq 79,.opq 89,.opq 99,.opq 109,.opq 119,.opq 129,.opq 139,.v (.slice none 0 0),.v (.slice none 0 0),.v (.slice none 0 0)] 170),(19,.row 1 1 [ii 0] 3),(29,.row 1 1 [ii 0] 3),(39,.row 1 1 [ii 0] 3),(49,.row 1 1 [ii 0] 3),(59,.row 1 1 [ii 0] 3),(69,.row 1 1 [ii 0] 3),(79,.row 1 1 [ii 0] 3),(89,.row 1 1 [ii 0] 3),(99,.row 1 1 [ii 0] 3),(109,.row 1 1 [ii 0] 3),(119,.row 1 1 [ii 0] 3),(129,.row 1 1 [ii 0] 3),(139,.row 1 1 [ii 0] 3),(10,.row 2 1 [ii 0,ii 0] 139),(6,.kmap false true []),(2,.cells [.opq 3,ii inp,.v (.slice none 0 0)] 25),(3,.row 8 1 (([prm1].flatMap Prm.vals).map .v) 60),(1,.pin plp)]) 144 ⟨⟨rfl,(show 2<144 by decide)⟩,⟨rfl,(show 12<144 by decide)⟩,⟨rfl,trivial⟩,trivial⟩ ⟨⟨rfl,(show 12<144 by decide),by simp [SObj.sc,SV.scs,SV.sc]⟩,⟨rfl,(show 19<144 by decide),by simp [SObj.sc,SV.scs,SV.sc]⟩,⟨rfl,(show 29<144 by decide),by simp [SObj.sc,SV.scs,SV.sc]⟩,⟨rfl,(show 39<144 by decide),by simp [SObj.sc,SV.scs,SV.sc]⟩,⟨rfl,(show 49<144 by decide),by simp [SObj.sc,SV.scs,SV.sc]⟩,⟨rfl,(show 59<144 by decide),by simp [SObj.sc,SV.scs,SV.sc]⟩,⟨rfl,(show 69<144 by decide),by simp [SObj.sc,SV.scs,SV.sc]⟩,⟨rfl,(show 79<144 by decide),by simp [SObj.sc,SV.scs,SV.sc]⟩,⟨rfl,(show 89<144 by decide),by simp [SObj.sc,SV.scs,SV.sc]⟩,⟨rfl,(show 99<144 by decide),by simp [SObj.sc,SV.scs,SV.sc]⟩,⟨rfl,(show 109<144 by decide),by simp [SObj.sc,SV.scs,SV.sc]⟩,⟨rfl,(show 119<144 by decide),by simp [SObj.sc,SV.scs,SV.sc]⟩,⟨rfl,(show 129<144 by decide),by simp [SObj.sc,SV.scs,SV.sc]⟩,⟨rfl,(show 139<144 by decide),by simp [SObj.sc,SV.scs,SV.sc]⟩,⟨rfl,(show 10<144 by decide),by simp [SObj.sc,SV.scs,SV.sc]⟩,⟨rfl,(show 6<144 by decide),trivial⟩,⟨rfl,(show 2<144 by decide),by simp [SObj.sc,SV.scs,SV.sc]⟩,⟨rfl,by omega,scs_v _ _⟩,⟨rfl,by omega,fun p hp=>Nat.lt_of_lt_of_le (hcov.1 p hp) (show 1≤144 by decide)⟩,trivial⟩ (fun p hp=>by have:=hLB p hp; omega) ?_
 refine Run.of_wpK (hc w L0 none (fun _ h=>by cases h)) 1000 _ ?_
 conv=>whnf
 refine Run.draw (hc w L0 none (fun _ h=>by cases h)) 10 ?_
 conv=>whnf
 refine ⟨by decide,?_⟩
 conv=>whnf
 refine ⟨by kernel_rfl,?_⟩
 refine Run.of_wpK (hc w L0 none (fun _ h=>by cases h)) 1000 _ ?_
 conv=>whnf
 refine Run.trim (T':=[(1,.ptr 2 0),(3,.ptr 12 0),(18,ii 14)]) (M':=[(12,.cells [.opq 3,ii inp,.v (.slice none 0 0),.mp 6,ii 0,.opq 10,.opq 19,.opq 29,.opq 39,.opq 49,.opq 59,.opq 69,.opq 79,.opq 89,.opq 99,.opq 109,.opq 119,.opq 129,.opq 139,.opq 149,.v (.slice none 0 0),.v (.slice none 0 0)] 170),(19,.row 1 1 [ii 0] 3),(29,.row 1 1 [ii 0] 3),(39,.row 1 1 [ii 0] 3),(49,.row 1 1 [ii 0] 3),(59,.row 1 1 [ii 0] 3),(69,.row 1 1 [ii 0] 3),(79,.row 1 1 [ii 0] 3),(89,.row 1 1 [ii 0] 3),(99,.row 1 1 [ii 0] 3),(109,.row 1 1 [ii 0] 3),(119,.row 1 1 [ii 0] 3),(129,.row 1 1 [ii 0] 3),(139,.row 1 1 [ii 0] 3),(149,.row 1 1 [ii 0] 3),(10,.row 2 1 [ii 0,ii 0] 139),(6,.kmap false true []),(2,.cells [.opq 3,ii inp,.v (.slice none 0 0)] 25),(3,.row 8 1 (([prm1].flatMap Prm.vals).map .v) 60),(1,.pin plp)]) 154 ⟨⟨rfl,(show 2<154 by decide)⟩,⟨rfl,(show 12<154 by decide)⟩,⟨rfl,trivial⟩,trivial⟩ ⟨⟨rfl,(show 12<154 by decide),by simp [SObj.sc,SV.scs,SV.sc]⟩,⟨rfl,(show 19<154 by decide),by simp [SObj.sc,SV.scs,SV.sc]⟩,⟨rfl,(show 29<154 by decide),by simp [SObj.sc,SV.scs,SV.sc]⟩,⟨rfl,(show 39<154 by decide),by simp [SObj.sc,SV.scs,SV.sc]⟩,⟨rfl,(show 49<154 by decide),by simp [SObj.sc,SV.scs,SV.sc]⟩,⟨rfl,(show 59<154 by decide),by simp [SObj.sc,SV.scs,SV.sc]⟩,⟨rfl,(show 69<154 by decide),by simp [SObj.sc,SV.scs,SV.sc]⟩,⟨rfl,(show 79<154 by decide),by simp [SObj.sc,SV.scs,SV.sc]⟩,⟨rfl,(show 89<154 by decide),by simp [SObj.sc,SV.scs,SV.sc]⟩,⟨rfl,(show 99<154 by decide),by simp [SObj.sc,SV.scs,SV.sc]⟩,⟨rfl,(show 109<154 by decide),by simp [SObj.sc,SV.scs,SV.sc]⟩,⟨rfl,(show 119<154 by decide),by simp [SObj.sc,SV.scs,SV.sc]⟩,⟨rfl,(show 129<154 by decide),by simp [SObj.sc,SV.scs,SV.sc]⟩,⟨rfl,(show 139<154 by decide),by simp [SObj.sc,SV.scs,SV.sc]⟩,⟨rfl,(show 149<154 by decide),by simp [SObj.sc,SV.scs,SV.sc]⟩,⟨rfl,(show 10<154 by decide),by simp [SObj.sc,SV.scs,SV.sc]⟩,⟨rfl,(show 6<154 by decide),trivial⟩,⟨rfl,(show 2<154 by decide),by simp [SObj.sc,SV.scs,SV.sc]⟩,⟨rfl,by omega,scs_v _ _⟩,⟨rfl,by omega,fun p hp=>Nat.lt_of_lt_of_le (hcov.1 p hp) (show 1≤154 by decide)⟩,trivial⟩ (fun p hp=>by have:=hLB p hp; omega) ?_
 refine Run.of_wpK (hc w L0 none (fun _ h=>by cases h)) 1000 _ ?_
 conv=>whnf
 refine Run.draw (hc w L0 none (fun _ h=>by cases h)) 10 ?_
 conv=>whnf
 refine ⟨by decide,?_⟩
 conv=>whnf
 refine ⟨by kernel_rfl,?_⟩
 refine Run.of_wpK (hc w L0 none (fun _ h=>by cases h)) 1000 _ ?_
 conv=>whnf
 refine Run.trim (T':=[(1,.ptr 2 0),(3,.ptr 12 0),(18,ii 15)]) (M':=[(12,.cells [.opq 3,ii inp,.v (.slice none 0 0),.mp 6,ii 0,.opq 10,.opq 19,.opq 29,.opq 39,.opq 49,.opq 59,.opq 69,.opq 79,.opq 89,.opq 99,.opq 109,.opq 119,.opq 129,.opq 139,.opq 149,.opq 159,.v (.slice none 0 0)] 170),(19,.row 1 1 [ii 0] 3),(29,.row 1 1 [ii 0] 3),(39,.row 1 1 [ii 0] 3),(49,.row 1 1 [ii 0] 3),(59,.row 1 1 [ii 0] 3),(69,.row 1 1 [ii 0] 3),(79,.row 1 1 [ii 0] 3),(89,.row 1 1 [ii 0] 3),(99,.row 1 1 [ii 0] 3),(109,.row 1 1 [ii 0] 3),(119,.row 1 1 [ii 0] 3),(129,.row 1 1 [ii 0] 3),(139,.row 1 1 [ii 0] 3),(149,.row 1 1 [ii 0] 3),(159,.row 1 1 [ii 0] 3),(10,.row 2 1 [ii 0,ii 0] 139),(6,.kmap false true []),(2,.cells [.opq 3,ii inp,.v (.slice none 0 0)] 25),(3,.row 8 1 (([prm1].flatMap Prm.vals).map .v) 60),(1,.pin plp)]) 164 ⟨⟨rfl,(show 2<164 by decide)⟩,⟨rfl,(show 12<164 by decide)⟩,⟨rfl,trivial⟩,trivial⟩ ⟨⟨rfl,(show 12<164 by decide),by simp [SObj.sc,SV.scs,SV.sc]⟩,⟨rfl,(show 19<164 by decide),by simp [SObj.sc,SV.scs,SV.sc]⟩,⟨rfl,(show 29<164 by decide),by simp [SObj.sc,SV.scs,SV.sc]⟩,⟨rfl,(show 39<164 by decide),by simp [SObj.sc,SV.scs,SV.sc]⟩,⟨rfl,(show 49<164 by decide),by simp [SObj.sc,SV.scs,SV.sc]⟩,⟨rfl,(show 59<164 by decide),by simp [SObj.sc,SV.scs,SV.sc]⟩,⟨rfl,(show 69<164 by decide),by simp [SObj.sc,SV.scs,SV.sc]⟩,⟨rfl,(show 79<164 by decide),by simp [SObj.sc,SV.scs,SV.sc]⟩,⟨rfl,(show 89<164 by decide),by simp [SObj.sc,SV.scs,SV.sc]⟩,⟨rfl,(show 99<164 by decide),by simp [SObj.sc,SV.scs,SV.sc]⟩,⟨rfl,(show 109<164 by decide),by simp [SObj.sc,SV.scs,SV.sc]⟩,⟨rfl,(show 119<164 by decide),by simp [SObj.sc,SV.scs,SV.sc]⟩,⟨rfl,(show 129<164 by decide),by simp [SObj.sc,SV.scs,SV.sc]⟩,⟨rfl,(show 139<164 by decide),by simp [SObj.sc,SV.scs,SV.sc]⟩,⟨rfl,(show 149<164 by decide),by simp [SObj.sc,SV.scs,SV.sc]⟩,⟨rfl,(show 159<164 by decide),by simp [SObj.sc,SV.scs,SV.sc]⟩,⟨rfl,(show 10<164 by decide),by simp [SObj.sc,SV.scs,SV.sc]⟩,⟨rfl,(show 6<164 by decide),trivial⟩,⟨rfl,(show 2<164 by decide),by simp [SObj.sc,SV.scs,SV.sc]⟩,⟨rfl,by omega,scs_v _ _⟩,⟨rfl,by omega,fun p hp=>Nat.lt_of_lt_of_le (hcov.1 p hp) (show 1≤164 by decide)⟩,trivial⟩ (fun p hp=>by have:=hLB p hp; omega) ?_
 refine Run.of_wpK (hc w L0 none (fun _ h=>by cases h)) 1000 _ ?_
 conv=>whnf
 refine Run.draw (hc w L0 none (fun _ h=>by cases h)) 10 ?_
 conv=>whnf
 refine ⟨by decide,?_⟩
 conv=>whnf
 refine ⟨by kernel_rfl,?_⟩
 refine Run.of_wpK (hc w L0 none (fun _ h=>by cases h)) 1000 _ ?_
 conv=>whnf
 refine Run.trim (T':=[(1,.ptr 2 0),(3,.ptr 12 0),(18,ii 16)]) (M':=[(12,.cells [.opq 3,ii inp,.v (.slice none 0 0),.mp 6,ii 0,.opq 10,.opq 19,.opq 29,.opq 39,.opq 49,.opq 59,.opq 69,.opq 79,.opq 89,.opq 99,.opq 109,.opq 119,.opq 129,.opq 139,.opq 149,.opq 159,.opq 169] 170),(19,.row 1 1 [ii 0] 3),(29,.row 1 1 [ii 0] 3),(39,.row 1 1 [ii 0] 3),(49,.row 1 1 [ii 0] 3),(59,.row 1 1 [ii 0] 3),(69,.row 1 1 [ii 0] 3),(79,.row 1 1 [ii 0] 3),(89,.row 1 1 [ii 0] 3),(99,.row 1 1 [ii 0] 3),(109,.row 1 1 [ii 0] 3),(119,.row 1 1 [ii 0] 3),(129,.row 1 1 [ii 0] 3),(139,.row 1 1 [ii 0] 3),(149,.row 1 1 [ii 0] 3),(159,.row 1 1 [ii 0] 3),(169,.row 1 1 [ii 0] 3),(10,.row 2 1 [ii 0,ii 0] 139),(6,.kmap false true []),(2,.cells [.opq 3,ii inp,.v (.slice none 0 0)] 25),(3,.row 8 1 (([prm1].flatMap Prm.vals).map .v) 60),(1,.pin plp)]) 174 ⟨⟨rfl,(show 2<174 by decide)⟩,⟨rfl,(show 12<174 by decide)⟩,⟨rfl,trivial⟩,trivial⟩ ⟨⟨rfl,(show 12<174 by decide),by simp [SObj.sc,SV.scs,SV.sc]⟩,⟨rfl,(show 19<174 by decide),by simp [SObj.sc,SV.scs,SV.sc]⟩,⟨rfl,(show 29<174 by decide),by simp [SObj.sc,SV.scs,SV.sc]⟩,⟨rfl,(show 39<174 by decide),by simp [SObj.sc,SV.scs,SV.sc]⟩,⟨rfl,(show 49<174 by decide),by simp [SObj.sc,SV.scs,SV.sc]⟩,⟨rfl,(show 59<174 by decide),by simp [SObj.sc,SV.scs,SV.sc]⟩,⟨rfl,(show 69<174 by decide),by simp [SObj.sc,SV.scs,SV.sc]⟩,⟨rfl,(show 79<174 by decide),by simp [SObj.sc,SV.scs,SV.sc]⟩,⟨rfl,(show 89<174 by decide),by simp [SObj.sc,SV.scs,SV.sc]⟩,⟨rfl,(show 99<174 by decide),by simp [SObj.sc,SV.scs,SV.sc]⟩,⟨rfl,(show 109<174 by decide),by simp [SObj.sc,SV.scs,SV.sc]⟩,⟨rfl,(show 119<174 by decide),by simp [SObj.sc,SV.scs,SV.sc]⟩,⟨rfl,(show 129<174 by decide),by simp [SObj.sc,SV.scs,SV.sc]⟩,⟨rfl,(show 139<174 by decide),by simp [SObj.sc,SV.scs,SV.sc]⟩,⟨rfl,(show 149<174 by decide),by simp [SObj.sc,SV.scs,SV.sc]⟩,⟨rfl,(show 159<174 by decide),by simp [SObj.sc,SV.scs,SV.sc]⟩,⟨rfl,(show 169<174 by decide),by simp [SObj.sc,SV.scs,SV.sc]⟩,⟨rfl,(show 10<174 by decide),by simp [SObj.sc,SV.scs,SV.sc]⟩,⟨rfl,(show 6<174 by decide),trivial⟩,⟨rfl,(show 2<174 by decide),by simp [SObj.sc,SV.scs,SV.sc]⟩,⟨rfl,by omega,scs_v _ _⟩,⟨rfl,by omega,fun p hp=>Nat.lt_of_lt_of_le (hcov.1 p hp) (show 1≤174 by decide)⟩,trivial⟩ (fun p hp=>by have:=hLB p hp; omega) ?_
 refine Run.of_wpK (hc w L0 none (fun _ h=>by cases h)) 1000 _ ?_
 conv=>whnf
 refine SpecR.introQ (rq [(1,12),(2,3),(3,6),(4,10),(5,19),(6,29),(7,39),(8,49),(9,59),(10,69),(11,79),(12,89),(13,99),(14,109),(15,119),(16,129),(17,139),(18,149),(19,159),(20,169)]) (fun i hi=>rq_fix (rq_noneB (B:=1) rfl hi)) ?_ (Widens.refl _ _) hLB (by decide) hcov rfl rfl (show 1<21 by decide) ?_
 ·intro i hi j hj hne
  have inj : ∀ i,i<21 → ∀ j,j<21→i≠j→rq [(1,12),(2,3),(3,6),(4,10),(5,19),(6,29),(7,39),(8,49),(9,59),(10,69),(11,79),(12,89),(13,99),(14,109),(15,119),(16,129),(17,139),(18,149),(19,159),(20,169)] i≠rq [(1,12),(2,3),(3,6),(4,10),(5,19),(6,29),(7,39),(8,49),(9,59),(10,69),(11,79),(12,89),(13,99),(14,109),(15,119),(16,129),(17,139),(18,149),(19,159),(20,169)] j:=by decide
  exact inj i hi j hj hne
 ·exact ⟨⟨rfl,by omega,by simp [SObj.sc,SV.scs,SV.sc]⟩,⟨by rw [oren_fix (S:=fun _=>False) (fun i hi=>hi.elim) (o := .row 8 1 (([prm1].flatMap Prm.vals).map .v) 60) (scs_v _ _)]; rfl,by omega,scs_v _ _⟩,⟨rfl,by omega,trivial⟩,⟨rfl,by omega,by simp [SObj.sc,SV.scs,SV.sc]⟩,⟨rfl,by omega,by simp [SObj.sc,SV.scs,SV.sc]⟩,⟨rfl,by omega,by simp [SObj.sc,SV.scs,SV.sc]⟩,⟨rfl,by omega,by simp [SObj.sc,SV.scs,SV.sc]⟩,⟨rfl,by omega,by simp [SObj.sc,SV.scs,SV.sc]⟩,⟨rfl,by omega,by simp [SObj.sc,SV.scs,SV.sc]⟩,⟨rfl,by omega,by simp [SObj.sc,SV.scs,SV.sc]⟩,⟨rfl,by omega,by simp [SObj.sc,SV.scs,SV.sc]⟩,⟨rfl,by omega,by simp [SObj.sc,SV.scs,SV.sc]⟩,⟨rfl,by omega,by simp [SObj.sc,SV.scs,SV.sc]⟩,⟨rfl,by omega,by simp [SObj.sc,SV.scs,SV.sc]⟩,⟨rfl,by omega,by simp [SObj.sc,SV.scs,SV.sc]⟩,⟨rfl,by omega,by simp [SObj.sc,SV.scs,SV.sc]⟩,⟨rfl,by omega,by simp [SObj.sc,SV.scs,SV.sc]⟩,⟨rfl,by omega,by simp [SObj.sc,SV.scs,SV.sc]⟩,⟨rfl,by omega,by simp [SObj.sc,SV.scs,SV.sc]⟩,⟨rfl,by omega,by simp [SObj.sc,SV.scs,SV.sc]⟩,trivial⟩
end Go.Proofs.Ytnnlpdgnlccbjaa
namespace Go.Proofs.Ytnnlpdgnlccbjaa
open Go.Sx
set_option maxRecDepth 100000
set_option maxHeartbeats 4000000
/-- What the iterator over no wires looks at. -/
def fromM (ins:List Int):List (Nat × SObj):=[(0,.kwin false []),(1,.rwin 1 ins.length (ints ins)),(2,.cells [.mp 0] 165),(3,.cells [.v (.slice none 0 0)] 27),(4,.cells [.opq 1] 27)]
def FromI (ρ0:Env) (ins:List Int) (w:World):Prop := ∃ ρ L,WI w L ρ (Sx.look (fromM ins)) (· < 5) w∧(∀ p∈L,p.1=2∨p.1=3∨p.1=4)∧Env.agree (· < 5) ρ0 ρ
theorem from_iter (ρ0:Env) (ins:List Int) (hlen:ins.length<4611686018427387904):IterW Try.prog 106 [.pointer (some ⟨ρ0.s 2,0,none⟩),.pointer (some ⟨ρ0.s 3,0,none⟩),.pointer (some ⟨ρ0.s 4,0,none⟩)] (FromI ρ0 ins) []:=by
 intro l J hext hI hy w hw
 have hc : ∀ w' L',Cx.ok ⟨Try.prog,tab,[],106,Try.f106,[],w',L',none⟩:=fun w' L'=>⟨tab_ok,trivial,Try.func106,mixed,fun _ h=>by cases h⟩
 obtain ⟨ρ,L,hW,hL,hag⟩:=hI 0 w hw
 have hcap : ∀ k,k<5→(∃ cs t,Sx.look (fromM ins) k=some (.cells cs t))→Value.pointer (some ⟨ρ0.s k,0,none⟩)=(SV.ptr k 0).conc ρ:=by
  intro k hk ⟨cs,t,hm⟩
  have h24:=hag k hk
  have h0:ρ.o k=0:=(hW.mem k _ hm).2.2.1
  simp only [SV.conc,h24.1,h0]
 rw [hcap 2 (by decide) ⟨_,_,rfl⟩,hcap 3 (by decide) ⟨_,_,rfl⟩,hcap 4 (by decide) ⟨_,_,rfl⟩]
 have hargs:(#[.func (.yield l) #[] #[]]++[(SV.ptr 2 0).conc ρ,(SV.ptr 3 0).conc ρ,(SV.ptr 4 0).conc ρ].toArray:Array Value)=(SV.concs ρ [.v (.func (.yield l) #[] #[]),.ptr 2 0,.ptr 3 0,.ptr 4 0]).toArray:=by simp [SV.concs,SV.conc]
 rw [hargs]
 have hWp:=hW.addPin hag
 refine Run.calls (tab:=tab) (pf:=[]) (cuts:=[]) Try.func106 rfl ρ [.v (.func (.yield l) #[] #[]),.ptr 2 0,.ptr 3 0,.ptr 4 0] _ 6 (by simp [SV.scs,SV.sc]) rfl hWp (Run.of_wpK (hc w L) 2000 _ ?_)
 conv=>whnf
 refine Run.of_wpK (hc w L) 1000 _ ?_
 conv=>whnf
 refine Run.trim (T':=[(5,.fn 107 [.ptr 2 0,.ptr 6 0]),(22,.opq 1),(23,ii (ins.length:Int)),(24,ii (((0:Nat):Nat):Int))]) (M':=[(6,.cells [.v (.func (.yield l) #[] #[])] 193),(5,.pin (pinsOf 5 ρ0)),(0,.kwin false []),(1,.rwin 1 ins.length (ints ins)),(2,.cells [.mp 0] 165),(3,.cells [.v (.slice none 0 0)] 27),(4,.cells [.opq 1] 27)]) 7 ⟨⟨rfl,⟨(show 2<7 by decide),(show 6<7 by decide),trivial⟩⟩,⟨rfl,(show 1<7 by decide)⟩,⟨rfl,trivial⟩,⟨rfl,trivial⟩,trivial⟩ ⟨⟨rfl,(show 6<7 by decide),by simp [SObj.sc,SV.scs,SV.sc]⟩,⟨rfl,(show 5<7 by decide),fun p hp=>Nat.lt_of_lt_of_le ((pinsOf_covers 5 ρ0).1 p hp) (by decide)⟩,⟨rfl,(show 0<7 by decide),trivial⟩,⟨rfl,(show 1<7 by decide),trivial⟩,⟨rfl,(show 2<7 by decide),by simp [SObj.sc,SV.scs,SV.sc]⟩,⟨rfl,(show 3<7 by decide),by simp [SObj.sc,SV.scs,SV.sc]⟩,⟨rfl,(show 4<7 by decide),by simp [SObj.sc,SV.scs,SV.sc]⟩,trivial⟩ (fun p hp=>by rcases hL p hp with e | e | e <;> rw [e] <;> decide) ?_
 refine Run.upToJ (T:=fun i=>[(5,.fn 107 [.ptr 2 0,.ptr 6 0]),(22,.opq 1),(23,ii (ins.length:Int)),(24,ii ((i:Nat):Int))]) (M:=fun i=>[(6,.cells [.v (.func (.yield l) #[] #[])] 193),(5,.pin (pinsOf 5 ρ0)),(0,.kwin false []),(1,.rwin 1 ins.length (ints ins)),(2,.cells [.mp 0] 165),(3,.cells [.v (.slice none 0 0)] 27),(4,.cells [.opq 1] 27)]) (fun _=>True) (ins.length) ?_ ?_ ?_
 ·exact trivial
 ·intro i hi hJ ih
  refine Run.of_wpK (hc w L) 1000 _ ?_
  conv=>whnf
  rw [decide_eq_true (show ((i:Nat):Int)<(ins.length:Int) by omega)]
  conv=>whnf
  refine ⟨by omega,?_⟩
  conv=>whnf
  rw [opF_load1 i rfl rfl rfl rfl (by rw [idx_nat,Nat.mul_one]) (ints_get hi)]
  conv=>whnf
  refine Run.callR (vs:=[ii (IntKind.i64.wrap (-1-ins[i]))]) (caps:=[.ptr 1 0,.ptr 2 0]) (caps2:=[.ptr 2 0,.ptr 6 0]) (each_spec (IntKind.i64.wrap (-1-ins[i]))) (ent _ _ Try.func107 (by kernel_rfl) rfl) rfl rfl rfl rfl rfl rfl [ii (IntKind.i64.wrap (-1-ins[i]))] rfl (rq [(1,2),(2,6)]) rfl (fun i hi=>by have:i=0∨i=1∨i=2:=(by omega); rcases this with rfl | rfl | rfl <;> decide) (fun i hi j hj hne=>by have inj : ∀ i,i<3 → ∀ j,j<3→i≠j→rq [(1,2),(2,6)] i≠rq [(1,2),(2,6)] j:=(by decide); exact inj i hi j hj hne) (by decide)
   ⟨⟨by omega,trivial,⟨_,rfl,Conv.refl _⟩,.inl rfl,fun _=>by simp⟩,⟨by omega,by simp [SObj.sc,SV.scs,SV.sc],⟨_,rfl,Conv.refl _⟩,.inr (by simp),fun h=>by cases h⟩,trivial⟩ (fun i hi=>by simp at hi; subst hi; exact ⟨by omega,_,rfl⟩) (.v (.bool true)) [(6,.cells [.v (.func (.yield l) #[] #[])] 193),(5,.pin (pinsOf 5 ρ0)),(0,.kwin false []),(1,.rwin 1 ins.length (ints ins)),(2,.cells [.mp 0] 165),(3,.cells [.v (.slice none 0 0)] 27),(4,.cells [.opq 1] 27)] 7 rfl rfl
   ⟨.inl ⟨rfl,fun i hi=>by simp at hi; subst hi; exact (show (2:Nat)≠6 by decide)⟩,.inl ⟨rfl,fun i hi=>by simp at hi; subst hi; exact (show (2:Nat)≠5 by decide)⟩,.inl ⟨rfl,fun i hi=>by simp at hi; subst hi; exact (show (2:Nat)≠0 by decide)⟩,.inl ⟨rfl,fun i hi=>by simp at hi; subst hi; exact (show (2:Nat)≠1 by decide)⟩,.inr ⟨1,_,rfl,rfl,rfl,rfl⟩,.inl ⟨rfl,fun i hi=>by simp at hi; subst hi; exact (show (2:Nat)≠3 by decide)⟩,.inl ⟨rfl,fun i hi=>by simp at hi; subst hi; exact (show (2:Nat)≠4 by decide)⟩,trivial⟩ ?_
  refine Run.of_wpK (hc w L) 1000 _ ?_
  conv=>whnf
  exact Run.trim (T':=[(5,.fn 107 [.ptr 2 0,.ptr 6 0]),(22,.opq 1),(23,ii (ins.length:Int)),(24,ii (((i+1:Nat):Nat):Int))]) (M':=[(6,.cells [.v (.func (.yield l) #[] #[])] 193),(5,.pin (pinsOf 5 ρ0)),(0,.kwin false []),(1,.rwin 1 ins.length (ints ins)),(2,.cells [.mp 0] 165),(3,.cells [.v (.slice none 0 0)] 27),(4,.cells [.opq 1] 27)]) 7 ⟨⟨rfl,⟨(show 2<7 by decide),(show 6<7 by decide),trivial⟩⟩,⟨rfl,(show 1<7 by decide)⟩,⟨rfl,trivial⟩,⟨congrArg some (congrArg ii (wrap_succ (by omega))),trivial⟩,trivial⟩ ⟨⟨rfl,(show 6<7 by decide),by simp [SObj.sc,SV.scs,SV.sc]⟩,⟨rfl,(show 5<7 by decide),fun p hp=>Nat.lt_of_lt_of_le ((pinsOf_covers 5 ρ0).1 p hp) (by decide)⟩,⟨rfl,(show 0<7 by decide),trivial⟩,⟨rfl,(show 1<7 by decide),trivial⟩,⟨rfl,(show 2<7 by decide),by simp [SObj.sc,SV.scs,SV.sc]⟩,⟨rfl,(show 3<7 by decide),by simp [SObj.sc,SV.scs,SV.sc]⟩,⟨rfl,(show 4<7 by decide),by simp [SObj.sc,SV.scs,SV.sc]⟩,trivial⟩ (fun p hp=>by rcases hL p hp with e | e | e <;> rw [e] <;> decide) (ih (trivial))
 ·intro hJ
  refine Run.of_wpK (hc w L) 1000 _ ?_
  conv=>whnf
  rw [decide_eq_false (show ¬ ((ins.length:Nat):Int)<(ins.length:Int) by omega)]
  conv=>whnf
  refine ⟨fun ρ1 w1 hW1 _=>⟨⟨_,rfl⟩,?_⟩⟩
  have ha1:Env.agree (· < 5) ρ0 ρ1:=hW1.agreeOf (q:=5) rfl
  refine hext 0 w w1 hw (hW.sameExt hW1 fun p hp => ?_)
  have hag1:Env.agree (· < 5) ρ ρ1:=hag.symm.trans ha1 fun _ h=>h
  rcases hL p hp with e | e | e <;> refine ⟨_,_,by rw [e]; rfl,by rw [e]; rfl,concs_agree hag1 _ (by simp [SV.scs,SV.sc])⟩
/-- What the iterator needs, out of what is told in a tick. -/
theorem FromI.of {w0 w:World} {L:List (Nat × Nat)} {ρ:Env} {M:List (Nat × SObj)} {n:Nat} (hW:WI w0 L ρ (Sx.look M) (· < n) w) (q:Nat) (pl2:List (Nat × Nat × Nat × (Option Addr × Nat × Nat))) (ins:List Int) (hcov:Covers q pl2) (hq:Sx.look M q=some (.pin pl2)) (hq26:26≤q)
  (m2:Sx.look M 2=some (.kwin false [])) (m20:Sx.look M 20=some (.rwin 1 ins.length (ints ins))) (m23:Sx.look M 23=some (.cells [.mp 2] 165)) (m24:Sx.look M 24=some (.cells [.v (.slice none 0 0)] 27)) (m25:Sx.look M 25=some (.cells [.opq 20] 27)):FromI ((envPl pl2).ren (rq [(0,2),(1,20),(2,23),(3,24),(4,25)])) ins w:=by
 refine ⟨ρ.ren (rq [(0,2),(1,20),(2,23),(3,24),(4,25)]),[(2,ρ.s 23),(3,ρ.s 24),(4,ρ.s 25)],?_,by simp,fun i hi => ?_⟩
 ·refine hW.again (WI.ext_refl w) (rq [(0,2),(1,20),(2,23),(3,24),(4,25)]) _ (fromM ins) 5 (fun p hp => ?_) (fun x hx => ?_) (fun x hx y hy h => ?_)
  ·simp only [List.mem_cons,List.not_mem_nil,or_false] at hp
   rcases hp with rfl | rfl | rfl
   ·exact ⟨by omega,rfl,⟨(2,.cells [.mp 0] 165),by simp [fromM],rfl⟩,_,m23,trivial⟩
   ·exact ⟨by omega,rfl,⟨(3,.cells [.v (.slice none 0 0)] 27),by simp [fromM],rfl⟩,_,m24,trivial⟩
   ·exact ⟨by omega,rfl,⟨(4,.cells [.opq 1] 27),by simp [fromM],rfl⟩,_,m25,trivial⟩
  ·simp only [fromM,List.mem_cons,List.not_mem_nil,or_false] at hx
   rcases hx with rfl | rfl | rfl | rfl | rfl
   ·exact ⟨by omega,trivial,fun h=>h.elim,_,m2,.inl rfl,by simp [SObj.away],fun _ p hp=>by simp at hp; rcases hp with rfl | rfl | rfl <;> simp⟩
   ·exact ⟨by omega,trivial,fun h=>h.elim,_,m20,.inl rfl,by simp [SObj.away],fun _ p hp=>by simp at hp; rcases hp with rfl | rfl | rfl <;> simp⟩
   ·exact ⟨by omega,by simp [SObj.sc,SV.scs,SV.sc],fun _=>⟨(2,ρ.s 23),by simp,rfl⟩,_,m23,.inl rfl,by simp [SObj.away],fun h=>by cases h⟩
   ·exact ⟨by omega,by simp [SObj.sc,SV.scs,SV.sc],fun _=>⟨(3,ρ.s 24),by simp,rfl⟩,_,m24,.inl rfl,by simp [SObj.away],fun h=>by cases h⟩
   ·exact ⟨by omega,by simp [SObj.sc,SV.scs,SV.sc],fun _=>⟨(4,ρ.s 25),by simp,rfl⟩,_,m25,.inl rfl,by simp [SObj.away],fun h=>by cases h⟩
  ·have key : ∀ z∈fromM ins,z.1<5:=fun z hz=>by
    simp only [fromM,List.mem_cons,List.not_mem_nil,or_false] at hz
    rcases hz with rfl | rfl | rfl | rfl | rfl <;> simp
   have inj : ∀ i,i<5 → ∀ j,j<5→i≠j→rq [(0,2),(1,20),(2,23),(3,24),(4,25)] i≠rq [(0,2),(1,20),(2,23),(3,24),(4,25)] j:=by decide
   exact inj _ (key x hx) _ (key y hy) h
 ·have hag:=hW.envPl hcov hq
  have hi:i<5:=hi
  have hlt : ∀ i,i<5→rq [(0,2),(1,20),(2,23),(3,24),(4,25)] i<26:=by decide
  exact hag _ (Nat.lt_of_lt_of_le (hlt i hi) hq26)
/-- What a tick of the simulation looks at. -/
def simM (inp tk:Int):List (Nat × SObj):=[(0,.cells (simC inp tk) 170),(1,.rwin 8 1 ([prm1].flatMap Prm.vals)),(2,.kwin false []),(3,.row 2 1 [ii 0,ii 0] 139),(4,.row 1 1 [ii 0] 3),(5,.row 1 1 [ii 0] 3),(6,.row 1 1 [ii 0] 3),(7,.row 1 1 [ii 0] 3),(8,.row 1 1 [ii 0] 3),(9,.row 1 1 [ii 0] 3),(10,.row 1 1 [ii 0] 3),(11,.row 1 1 [ii 0] 3),(12,.row 1 1 [ii 0] 3),(13,.row 1 1 [ii 0] 3),(14,.row 1 1 [ii 0] 3),(15,.row 1 1 [ii 0] 3),(16,.row 1 1 [ii 0] 3),(17,.row 1 1 [ii 0] 3),(18,.row 1 1 [ii 0] 3),(19,.row 1 1 [ii 0] 3)]
theorem sim_spec (inp tk:Int) (ins:List Int) (h0:0≤tk) (h1:tk<4611686018427387904) (hlen:ins.length<4611686018427387904):BSpec Try.prog 60 [.ptr 0 0,.opq 20] (simM inp tk++[(20,.rwin 1 ins.length (ints ins))]) 21 [0,3,4,5,6,7,8,9,10,11,12,13,14,15,16,17,18,19] (.v (.slice none 0 0)) (simM inp (W (tk+1))) 21:=by
 obtain ⟨vd,hvd⟩ : ∃ f,vld=f:=⟨_,rfl⟩
 obtain ⟨sS,hsS⟩ : ∃ f,stepS=f:=⟨_,rfl⟩
 obtain ⟨sB,hsB⟩ : ∃ f,stepB=f:=⟨_,rfl⟩
 have hpf:PF.oks Try.prog [(80,FTick vld stepS stepB)]:=⟨tick_pure,trivial⟩
 have hv1:vd prm1 ste0=0:=by rw [← hvd]; decide
 have hS1:sS prm1 ste0 0=ste0:=by rw [← hsS]; rfl
 have hB1:sB prm1 ste0 0=false:=by rw [← hsB]; decide
 rw [hvd,hsS,hsB] at hpf
 have hc : ∀ w L' rd,(∀ p,rd=some p→p∈L')→Cx.ok ⟨Try.prog,tab,[(80,FTick vd sS sB)],60,Try.f60,[],w,L',rd⟩:=fun w L' rd h=>⟨tab_ok,hpf,Try.func60,mixed,h⟩
 refine BSpec.start (tab:=tab) (pf:=[(80,FTick vd sS sB)]) (cuts:=[]) Try.func60 rfl ⟨(show 0<21 by decide),(show 20<21 by decide),trivial⟩ rfl fun w L0 plp hL hLB hcov=>Run.of_wpK (hc w L0 none (fun _ h=>by cases h)) 100 _ ?_
 conv=>whnf
 refine Run.callP (vs:=[.ptr 0 0,ii 0]) (caps:=[]) (row_spec inp tk h0 h1) (ent _ _ Try.func93 (by kernel_rfl) rfl) rfl rfl rfl rfl rfl rfl rfl (by decide) (by decide)
  ⟨⟨by omega,simC_sc _ _,⟨_,rfl,Conv.refl _⟩,.inr (by simp),fun h=>by cases h⟩,trivial⟩ (fun i hi=>by simp at hi; subst hi; exact ⟨by omega,_,rfl⟩) (.opq (4+slotN tk)) [(21,.pin plp),(22,.cells [.ptr 0 0] 124),(0,.cells (simC inp tk) 170),(1,.rwin 8 1 ([prm1].flatMap Prm.vals)),(2,.kwin false []),(3,.row 2 1 [ii 0,ii 0] 139),(4,.row 1 1 [ii 0] 3),(5,.row 1 1 [ii 0] 3),(6,.row 1 1 [ii 0] 3),(7,.row 1 1 [ii 0] 3),(8,.row 1 1 [ii 0] 3),(9,.row 1 1 [ii 0] 3),(10,.row 1 1 [ii 0] 3),(11,.row 1 1 [ii 0] 3),(12,.row 1 1 [ii 0] 3),(13,.row 1 1 [ii 0] 3),(14,.row 1 1 [ii 0] 3),(15,.row 1 1 [ii 0] 3),(16,.row 1 1 [ii 0] 3),(17,.row 1 1 [ii 0] 3),(18,.row 1 1 [ii 0] 3),(19,.row 1 1 [ii 0] 3),(20,.rwin 1 ins.length (ints ins))] 23 (by show _=SV.opq (sh 20 23 (4+slotN tk)); rw [sh_lt (by have:=slotN_lt (t:=tk); omega)]) rfl
  ⟨.inl ⟨rfl,by simp⟩,.inl ⟨rfl,by simp⟩,.inr ⟨0,_,rfl,rfl,by rw [oren_fix (S:=(· < 20)) (fun i hi=>sh_fix i hi) (o := .cells (simC inp tk) 170) (simC_sc _ _)],rfl⟩,.inl ⟨rfl,by simp⟩,.inl ⟨rfl,by simp⟩,.inl ⟨rfl,by simp⟩,.inl ⟨rfl,by simp⟩,.inl ⟨rfl,by simp⟩,.inl ⟨rfl,by simp⟩,.inl ⟨rfl,by simp⟩,.inl ⟨rfl,by simp⟩,.inl ⟨rfl,by simp⟩,.inl ⟨rfl,by simp⟩,.inl ⟨rfl,by simp⟩,.inl ⟨rfl,by simp⟩,.inl ⟨rfl,by simp⟩,.inl ⟨rfl,by simp⟩,.inl ⟨rfl,by simp⟩,.inl ⟨rfl,by simp⟩,.inl ⟨rfl,by simp⟩,.inl ⟨rfl,by simp⟩,.inl ⟨rfl,by simp⟩,.inl ⟨rfl,by simp⟩,trivial⟩ ?_
 have hk16:=slotN_lt (t:=tk)
 generalize slotN tk=k at hk16 ⊢
 rcases lt16 hk16 with rfl | rfl | rfl | rfl | rfl | rfl | rfl | rfl | rfl | rfl | rfl | rfl | rfl | rfl | rfl | rfl
 all_goals
  refine Run.of_wpK (hc w L0 none (fun _ h=>by cases h)) 1000 _ ?_
  conv=>whnf
  refine Run.of_wpK (hc w L0 none (fun _ h=>by cases h)) 1000 _ ?_
  conv=>whnf
  refine ⟨by decide,?_⟩
  conv=>whnf
  refine Run.draw (hc w L0 none (fun _ h=>by cases h)) 25 ?_
  rw [show upto 0 25=upto 0 7++(upto 7 7++(upto 14 3++upto 17 8)) from rfl]
  simp only [drawK_app]
  conv=>whnf
  refine ⟨by decide,?_⟩
  conv=>whnf
  refine ⟨by decide,?_⟩
  conv=>whnf
  rw [opF_callG (F:=FTick vd sS sB) rfl rfl rfl rfl (FTick_eq vd sS sB _ prm1 ste0 0 hv1),hS1,hB1]
  conv=>whnf
  refine ⟨by kernel_rfl,?_⟩
  refine Run.of_wpK (hc w L0 none (fun _ h=>by cases h)) 1000 _ ?_
  conv=>whnf
  refine Run.draw (hc w L0 none (fun _ h=>by cases h)) 8 ?_
  rw [show upto 0 8=upto 0 7++upto 7 1 from rfl]
  simp only [drawK_app]
  conv=>whnf
  refine ⟨by decide,?_⟩
  conv=>whnf
  refine ⟨by kernel_rfl,?_⟩
  refine Run.of_wpK (hc w L0 none (fun _ h=>by cases h)) 1000 _ ?_
  conv=>whnf
  refine Run.of_wpK (hc w L0 none (fun _ h=>by cases h)) 1000 _ ?_
  conv=>whnf
  refine Run.clear1 (hc w L0 none (fun _ h=>by cases h)) rfl rfl rfl rfl rfl rfl rfl rfl rfl rfl rfl ?_
  refine Run.trim (T':=[(2,.ptr 22 0),(5,.v (.slice none 0 0)),(1,.opq 20)]) (M':=[(21,.pin plp),(22,.cells [.ptr 0 0] 124),(0,.cells (simC inp tk) 170),(1,.rwin 8 1 ([prm1].flatMap Prm.vals)),(2,.kwin false []),(3,.row 2 1 [ii 0,ii 0] 139),(4,.row 1 1 [ii 0] 3),(5,.row 1 1 [ii 0] 3),(6,.row 1 1 [ii 0] 3),(7,.row 1 1 [ii 0] 3),(8,.row 1 1 [ii 0] 3),(9,.row 1 1 [ii 0] 3),(10,.row 1 1 [ii 0] 3),(11,.row 1 1 [ii 0] 3),(12,.row 1 1 [ii 0] 3),(13,.row 1 1 [ii 0] 3),(14,.row 1 1 [ii 0] 3),(15,.row 1 1 [ii 0] 3),(16,.row 1 1 [ii 0] 3),(17,.row 1 1 [ii 0] 3),(18,.row 1 1 [ii 0] 3),(19,.row 1 1 [ii 0] 3),(20,.rwin 1 ins.length (ints ins))]) 23 ⟨⟨rfl,(show 22<23 by decide)⟩,⟨rfl,trivial⟩,⟨rfl,(show 20<23 by decide)⟩,trivial⟩ ⟨⟨rfl,by omega,fun p hp=>Nat.lt_of_lt_of_le (hcov.1 p hp) (show 21≤23 by decide)⟩,⟨rfl,(show 22<23 by decide),by simp [SObj.sc,SV.scs,SV.sc]⟩,⟨rfl,by omega,SV.scs_lt (by decide) (simC_sc _ _)⟩,⟨rfl,(show 1<23 by decide),trivial⟩,⟨rfl,(show 2<23 by decide),trivial⟩,⟨rfl,(show 3<23 by decide),by simp [SObj.sc,SV.scs,SV.sc]⟩,⟨rfl,(show 4<23 by decide),by simp [SObj.sc,SV.scs,SV.sc]⟩,⟨rfl,(show 5<23 by decide),by simp [SObj.sc,SV.scs,SV.sc]⟩,⟨rfl,(show 6<23 by decide),by simp [SObj.sc,SV.scs,SV.sc]⟩,⟨rfl,(show 7<23 by decide),by simp [SObj.sc,SV.scs,SV.sc]⟩,⟨rfl,(show 8<23 by decide),by simp [SObj.sc,SV.scs,SV.sc]⟩,⟨rfl,(show 9<23 by decide),by simp [SObj.sc,SV.scs,SV.sc]⟩,⟨rfl,(show 10<23 by decide),by simp [SObj.sc,SV.scs,SV.sc]⟩,⟨rfl,(show 11<23 by decide),by simp [SObj.sc,SV.scs,SV.sc]⟩,⟨rfl,(show 12<23 by decide),by simp [SObj.sc,SV.scs,SV.sc]⟩,⟨rfl,(show 13<23 by decide),by simp [SObj.sc,SV.scs,SV.sc]⟩,⟨rfl,(show 14<23 by decide),by simp [SObj.sc,SV.scs,SV.sc]⟩,⟨rfl,(show 15<23 by decide),by simp [SObj.sc,SV.scs,SV.sc]⟩,⟨rfl,(show 16<23 by decide),by simp [SObj.sc,SV.scs,SV.sc]⟩,⟨rfl,(show 17<23 by decide),by simp [SObj.sc,SV.scs,SV.sc]⟩,⟨rfl,(show 18<23 by decide),by simp [SObj.sc,SV.scs,SV.sc]⟩,⟨rfl,(show 19<23 by decide),by simp [SObj.sc,SV.scs,SV.sc]⟩,⟨rfl,(show 20<23 by decide),trivial⟩,trivial⟩ (fun p hp=>by have:=hLB p hp; omega) ?_
  refine Run.of_wpK (hc w L0 none (fun _ h=>by cases h)) 1000 _ ?_
  conv=>whnf
  refine Run.callR (vs:=[.mp 0,.v (.slice none 0 0),.opq 1]) (caps:=[]) (caps2:=[]) from_spec (ent _ _ Try.func94 (by kernel_rfl) rfl) rfl rfl rfl rfl rfl rfl [.mp 2,.v (.slice none 0 0),.opq 20] rfl (rq [(0,2),(1,20)]) rfl (fun i hi=>by have:i=0∨i=1:=(by omega); rcases this with rfl | rfl <;> decide) (fun i hi j hj hne=>by have inj : ∀ i,i<2 → ∀ j,j<2→i≠j→rq [(0,2),(1,20)] i≠rq [(0,2),(1,20)] j:=(by decide); exact inj i hi j hj hne) (by decide)
   trivial (fun i hi=>by cases hi) (.fn 106 [.ptr 23 0,.ptr 24 0,.ptr 25 0]) [(23,.cells [.mp 2] 165),(24,.cells [.v (.slice none 0 0)] 27),(25,.cells [.opq 20] 27),(21,.pin plp),(22,.cells [.ptr 0 0] 124),(0,.cells (simC inp tk) 170),(1,.rwin 8 1 ([prm1].flatMap Prm.vals)),(2,.kwin false []),(3,.row 2 1 [ii 0,ii 0] 139),(4,.row 1 1 [ii 0] 3),(5,.row 1 1 [ii 0] 3),(6,.row 1 1 [ii 0] 3),(7,.row 1 1 [ii 0] 3),(8,.row 1 1 [ii 0] 3),(9,.row 1 1 [ii 0] 3),(10,.row 1 1 [ii 0] 3),(11,.row 1 1 [ii 0] 3),(12,.row 1 1 [ii 0] 3),(13,.row 1 1 [ii 0] 3),(14,.row 1 1 [ii 0] 3),(15,.row 1 1 [ii 0] 3),(16,.row 1 1 [ii 0] 3),(17,.row 1 1 [ii 0] 3),(18,.row 1 1 [ii 0] 3),(19,.row 1 1 [ii 0] 3),(20,.rwin 1 ins.length (ints ins))] 26 rfl rfl
   ⟨.inr ⟨2,_,rfl,rfl,rfl,rfl⟩,.inr ⟨3,_,rfl,rfl,rfl,rfl⟩,.inr ⟨4,_,rfl,rfl,rfl,rfl⟩,.inl ⟨rfl,fun i hi=>by cases hi⟩,.inl ⟨rfl,fun i hi=>by cases hi⟩,.inl ⟨rfl,fun i hi=>by cases hi⟩,.inl ⟨rfl,fun i hi=>by cases hi⟩,.inl ⟨rfl,fun i hi=>by cases hi⟩,.inl ⟨rfl,fun i hi=>by cases hi⟩,.inl ⟨rfl,fun i hi=>by cases hi⟩,.inl ⟨rfl,fun i hi=>by cases hi⟩,.inl ⟨rfl,fun i hi=>by cases hi⟩,.inl ⟨rfl,fun i hi=>by cases hi⟩,.inl ⟨rfl,fun i hi=>by cases hi⟩,.inl ⟨rfl,fun i hi=>by cases hi⟩,.inl ⟨rfl,fun i hi=>by cases hi⟩,.inl ⟨rfl,fun i hi=>by cases hi⟩,.inl ⟨rfl,fun i hi=>by cases hi⟩,.inl ⟨rfl,fun i hi=>by cases hi⟩,.inl ⟨rfl,fun i hi=>by cases hi⟩,.inl ⟨rfl,fun i hi=>by cases hi⟩,.inl ⟨rfl,fun i hi=>by cases hi⟩,.inl ⟨rfl,fun i hi=>by cases hi⟩,.inl ⟨rfl,fun i hi=>by cases hi⟩,.inl ⟨rfl,fun i hi=>by cases hi⟩,.inl ⟨rfl,fun i hi=>by cases hi⟩,trivial⟩ ?_
  refine Run.of_wpK (hc w L0 none (fun _ h=>by cases h)) 1000 _ ?_
  conv=>whnf
  refine Run.pinAll fun pl2 hcov2 => ?_
  refine Run.trim (T':=[(63,.fn 106 [.ptr 23 0,.ptr 24 0,.ptr 25 0]),(2,.ptr 22 0),(5,.v (.slice none 0 0))]) (M':=[(26,.pin pl2),(23,.cells [.mp 2] 165),(24,.cells [.v (.slice none 0 0)] 27),(25,.cells [.opq 20] 27),(21,.pin plp),(22,.cells [.ptr 0 0] 124),(0,.cells (simC inp tk) 170),(1,.rwin 8 1 ([prm1].flatMap Prm.vals)),(2,.kwin false []),(3,.row 2 1 [ii 0,ii 0] 139),(4,.row 1 1 [ii 0] 3),(5,.row 1 1 [ii 0] 3),(6,.row 1 1 [ii 0] 3),(7,.row 1 1 [ii 0] 3),(8,.row 1 1 [ii 0] 3),(9,.row 1 1 [ii 0] 3),(10,.row 1 1 [ii 0] 3),(11,.row 1 1 [ii 0] 3),(12,.row 1 1 [ii 0] 3),(13,.row 1 1 [ii 0] 3),(14,.row 1 1 [ii 0] 3),(15,.row 1 1 [ii 0] 3),(16,.row 1 1 [ii 0] 3),(17,.row 1 1 [ii 0] 3),(18,.row 1 1 [ii 0] 3),(19,.row 1 1 [ii 0] 3),(20,.rwin 1 ins.length (ints ins))]) 27 ⟨⟨rfl,⟨(show 23<27 by decide),(show 24<27 by decide),(show 25<27 by decide),trivial⟩⟩,⟨rfl,(show 22<27 by decide)⟩,⟨rfl,trivial⟩,trivial⟩ ⟨⟨rfl,by omega,fun p hp=>Nat.lt_of_lt_of_le (hcov2.1 p hp) (show 26≤27 by decide)⟩,⟨rfl,(show 23<27 by decide),by simp [SObj.sc,SV.scs,SV.sc]⟩,⟨rfl,(show 24<27 by decide),by simp [SObj.sc,SV.scs,SV.sc]⟩,⟨rfl,(show 25<27 by decide),by simp [SObj.sc,SV.scs,SV.sc]⟩,⟨rfl,by omega,fun p hp=>Nat.lt_of_lt_of_le (hcov.1 p hp) (show 21≤27 by decide)⟩,⟨rfl,(show 22<27 by decide),by simp [SObj.sc,SV.scs,SV.sc]⟩,⟨rfl,by omega,SV.scs_lt (by decide) (simC_sc _ _)⟩,⟨rfl,(show 1<27 by decide),trivial⟩,⟨rfl,(show 2<27 by decide),trivial⟩,⟨rfl,(show 3<27 by decide),by simp [SObj.sc,SV.scs,SV.sc]⟩,⟨rfl,(show 4<27 by decide),by simp [SObj.sc,SV.scs,SV.sc]⟩,⟨rfl,(show 5<27 by decide),by simp [SObj.sc,SV.scs,SV.sc]⟩,⟨rfl,(show 6<27 by decide),by simp [SObj.sc,SV.scs,SV.sc]⟩,⟨rfl,(show 7<27 by decide),by simp [SObj.sc,SV.scs,SV.sc]⟩,⟨rfl,(show 8<27 by decide),by simp [SObj.sc,SV.scs,SV.sc]⟩,⟨rfl,(show 9<27 by decide),by simp [SObj.sc,SV.scs,SV.sc]⟩,⟨rfl,(show 10<27 by decide),by simp [SObj.sc,SV.scs,SV.sc]⟩,⟨rfl,(show 11<27 by decide),by simp [SObj.sc,SV.scs,SV.sc]⟩,⟨rfl,(show 12<27 by decide),by simp [SObj.sc,SV.scs,SV.sc]⟩,⟨rfl,(show 13<27 by decide),by simp [SObj.sc,SV.scs,SV.sc]⟩,⟨rfl,(show 14<27 by decide),by simp [SObj.sc,SV.scs,SV.sc]⟩,⟨rfl,(show 15<27 by decide),by simp [SObj.sc,SV.scs,SV.sc]⟩,⟨rfl,(show 16<27 by decide),by simp [SObj.sc,SV.scs,SV.sc]⟩,⟨rfl,(show 17<27 by decide),by simp [SObj.sc,SV.scs,SV.sc]⟩,⟨rfl,(show 18<27 by decide),by simp [SObj.sc,SV.scs,SV.sc]⟩,⟨rfl,(show 19<27 by decide),by simp [SObj.sc,SV.scs,SV.sc]⟩,⟨rfl,(show 20<27 by decide),trivial⟩,trivial⟩ (fun p hp=>by have:=hLB p hp; omega) ?_
  refine Run.rangeF (T0:=[(2,.ptr 22 0),(5,.v (.slice none 0 0))]) (caps:=[.ptr 23 0,.ptr 24 0,.ptr 25 0]) rfl (x := .tmp 63) rfl rfl (ent _ _ Try.func106 (by kernel_rfl) rfl) hcov2 rfl (by decide)
   (fun _=>[(26,.pin pl2),(23,.cells [.mp 2] 165),(24,.cells [.v (.slice none 0 0)] 27),(25,.cells [.opq 20] 27),(21,.pin plp),(22,.cells [.ptr 0 0] 124),(0,.cells (simC inp tk) 170),(1,.rwin 8 1 ([prm1].flatMap Prm.vals)),(2,.kwin false []),(3,.row 2 1 [ii 0,ii 0] 139),(4,.row 1 1 [ii 0] 3),(5,.row 1 1 [ii 0] 3),(6,.row 1 1 [ii 0] 3),(7,.row 1 1 [ii 0] 3),(8,.row 1 1 [ii 0] 3),(9,.row 1 1 [ii 0] 3),(10,.row 1 1 [ii 0] 3),(11,.row 1 1 [ii 0] 3),(12,.row 1 1 [ii 0] 3),(13,.row 1 1 [ii 0] 3),(14,.row 1 1 [ii 0] 3),(15,.row 1 1 [ii 0] 3),(16,.row 1 1 [ii 0] 3),(17,.row 1 1 [ii 0] 3),(18,.row 1 1 [ii 0] 3),(19,.row 1 1 [ii 0] 3),(20,.rwin 1 ins.length (ints ins))]) 29
   [] (by simp) ?_ ?_ (by decide) (fun _=>rfl) ?_ ?_ (FromI ((envPl pl2).ren (rq [(0,2),(1,20),(2,23),(3,24),(4,25)])) ins) ?_ ?_ ?_ ?_
  ·exact AllP.mem (l:=[64]) ⟨Nat.le_of_ble_eq_true rfl,trivial⟩
  ·intro v hv; cases hv
  ·exact AllP.mem ⟨⟨rfl,(show 22<26 by decide)⟩,⟨rfl,trivial⟩,trivial⟩
  ·exact AllP.mem ⟨⟨rfl,by omega⟩,⟨rfl,by omega⟩,⟨rfl,by omega⟩,⟨rfl,by omega⟩,⟨rfl,by omega⟩,⟨rfl,by omega⟩,⟨rfl,by omega⟩,⟨rfl,by omega⟩,⟨rfl,by omega⟩,⟨rfl,by omega⟩,⟨rfl,by omega⟩,⟨rfl,by omega⟩,⟨rfl,by omega⟩,⟨rfl,by omega⟩,⟨rfl,by omega⟩,⟨rfl,by omega⟩,⟨rfl,by omega⟩,⟨rfl,by omega⟩,⟨rfl,by omega⟩,⟨rfl,by omega⟩,⟨rfl,by omega⟩,⟨rfl,by omega⟩,⟨rfl,by omega⟩,⟨rfl,by omega⟩,⟨rfl,by omega⟩,⟨rfl,by omega⟩,⟨rfl,by omega⟩,trivial⟩
  ·intro ρ w1 hW1
   have hag:=hW1.envPl hcov2 rfl
   have key : ∀ k,k<26→(∃ cs t,Sx.look ([(26,.pin pl2),(23,.cells [.mp 2] 165),(24,.cells [.v (.slice none 0 0)] 27),(25,.cells [.opq 20] 27),(21,.pin plp),(22,.cells [.ptr 0 0] 124),(0,.cells (simC inp tk) 170),(1,.rwin 8 1 ([prm1].flatMap Prm.vals)),(2,.kwin false []),(3,.row 2 1 [ii 0,ii 0] 139),(4,.row 1 1 [ii 0] 3),(5,.row 1 1 [ii 0] 3),(6,.row 1 1 [ii 0] 3),(7,.row 1 1 [ii 0] 3),(8,.row 1 1 [ii 0] 3),(9,.row 1 1 [ii 0] 3),(10,.row 1 1 [ii 0] 3),(11,.row 1 1 [ii 0] 3),(12,.row 1 1 [ii 0] 3),(13,.row 1 1 [ii 0] 3),(14,.row 1 1 [ii 0] 3),(15,.row 1 1 [ii 0] 3),(16,.row 1 1 [ii 0] 3),(17,.row 1 1 [ii 0] 3),(18,.row 1 1 [ii 0] 3),(19,.row 1 1 [ii 0] 3),(20,.rwin 1 ins.length (ints ins))]:List (Nat × SObj)) k=some (.cells cs t))→(SV.ptr k 0).conc ρ=Value.pointer (some ⟨(envPl pl2).s k,0,none⟩):=by
    intro k hk ⟨cs,t,hm⟩
    have ho:ρ.o k=0:=(hW1.mem k _ hm).2.2.1
    simp only [SV.conc,ho,(hag k hk).1]
   have e:SV.concs ρ [.ptr 23 0,.ptr 24 0,.ptr 25 0]=[Value.pointer (some ⟨((envPl pl2).ren (rq [(0,2),(1,20),(2,23),(3,24),(4,25)])).s 2,0,none⟩),Value.pointer (some ⟨((envPl pl2).ren (rq [(0,2),(1,20),(2,23),(3,24),(4,25)])).s 3,0,none⟩),Value.pointer (some ⟨((envPl pl2).ren (rq [(0,2),(1,20),(2,23),(3,24),(4,25)])).s 4,0,none⟩)]:=by
    simp only [SV.concs,key 23 (by decide) ⟨_,_,rfl⟩,key 24 (by decide) ⟨_,_,rfl⟩,key 25 (by decide) ⟨_,_,rfl⟩]
    rfl
   rw [e]
   exact from_iter _ ins hlen
  ·intro i L' ρ' a d w' hwid hW'
   exact FromI.of hW' 26 pl2 ins hcov2 rfl (by decide) rfl rfl rfl rfl rfl
  ·intro i v hv; simp at hv
  ·intro L' a d hwid hd hLp
   have hlid : ∀ p∈L',p.1<29:=fun p hp=>by
    rcases hLp p hp with h | h | h
    ·omega
    ·omega
    ·have:=hLB p h; omega
   refine Run.of_wpK (hc w L' none (fun q hq=>by cases hq)) 1000 _ ?_
   conv=>whnf
   refine Run.retD (hc w L' none (fun q hq=>by cases hq)) rfl 27 d hd rfl (.inr ⟨_,rfl⟩) rfl ?_
   refine SpecR.introN 29 (by decide) hwid hLB (by decide) hcov rfl rfl trivial ?_
   exact ⟨⟨by rw [oren_fix (S:=(· < 20)) (fun i hi=>sh_fix i (by omega)) (o := .cells (simC inp (W (tk+1))) 170) (simC_sc _ _)]; rfl,by omega,SV.scs_lt (by decide) (simC_sc _ _)⟩,⟨rfl,by omega,trivial⟩,⟨rfl,by omega,trivial⟩,⟨rfl,by omega,by simp [SObj.sc,SV.scs,SV.sc]⟩,⟨rfl,by omega,by simp [SObj.sc,SV.scs,SV.sc]⟩,⟨rfl,by omega,by simp [SObj.sc,SV.scs,SV.sc]⟩,⟨rfl,by omega,by simp [SObj.sc,SV.scs,SV.sc]⟩,⟨rfl,by omega,by simp [SObj.sc,SV.scs,SV.sc]⟩,⟨rfl,by omega,by simp [SObj.sc,SV.scs,SV.sc]⟩,⟨rfl,by omega,by simp [SObj.sc,SV.scs,SV.sc]⟩,⟨rfl,by omega,by simp [SObj.sc,SV.scs,SV.sc]⟩,⟨rfl,by omega,by simp [SObj.sc,SV.scs,SV.sc]⟩,⟨rfl,by omega,by simp [SObj.sc,SV.scs,SV.sc]⟩,⟨rfl,by omega,by simp [SObj.sc,SV.scs,SV.sc]⟩,⟨rfl,by omega,by simp [SObj.sc,SV.scs,SV.sc]⟩,⟨rfl,by omega,by simp [SObj.sc,SV.scs,SV.sc]⟩,⟨rfl,by omega,by simp [SObj.sc,SV.scs,SV.sc]⟩,⟨rfl,by omega,by simp [SObj.sc,SV.scs,SV.sc]⟩,⟨rfl,by omega,by simp [SObj.sc,SV.scs,SV.sc]⟩,⟨rfl,by omega,by simp [SObj.sc,SV.scs,SV.sc]⟩,trivial⟩
end Go.Proofs.Ytnnlpdgnlccbjaa
namespace Go.Proofs.Ytnnlpdgnlccbjaa
open Go.Sx
set_option maxRecDepth 100000
set_option maxHeartbeats 8000000
/-- How many of the first events are of a tick. -/
def nAt (t:Int):List Evt→Nat
 | []=>0
 | x::l=>if x.tick=t then nAt t l+1 else 0
theorem nAt_le (t:Int) : ∀ l:List Evt,nAt t l≤l.length
 | []=>Nat.le_refl _
 | x::l=>by
  unfold nAt
  have:=nAt_le t l
  split
  ·simp; omega
  ·omega
theorem nAt_lt {t:Int} : ∀ {l:List Evt} {i:Nat},i<nAt t l → ∃ h:i<l.length,l[i].tick=t
 | [],i,h=>by simp [nAt] at h
 | x::l,i,h=>by
  unfold nAt at h
  split at h
  ·rename_i e
   cases i with
   | zero=>exact ⟨by simp,e⟩
   | succ i =>
    obtain ⟨h1,h2⟩:=nAt_lt (t:=t) (l:=l) (i:=i) (by omega)
    exact ⟨by simpa using h1,by simpa using h2⟩
  ·omega
theorem nAt_end {t:Int} : ∀ {l:List Evt} (h:nAt t l<l.length),l[nAt t l].tick≠t
 | [],h=>by simp at h
 | x::l,h=>by
  unfold nAt at h
  split at h
  ·rename_i e
   have h':nAt t l<l.length:=by simpa using h
   have:=nAt_end h'
   simp only [nAt,if_pos e,List.getElem_cons_succ]
   exact this
  ·rename_i e
   simp only [nAt,if_neg e,List.getElem_cons_zero]
   exact e
/-- What is left of the events behind some ticks. -/
def evR (l:List Evt):Nat→List Evt
 | 0=>l
 | i+1=>(evR l i).drop (nAt i (evR l i))
theorem evR_len (l:List Evt) : ∀ i,(evR l i).length≤l.length
 | 0=>Nat.le_refl _
 | i+1=>by
  unfold evR
  rw [List.length_drop]
  have:=evR_len l i
  omega
def idsT (l:List Evt) (j:Nat):List Int:=(l.take j).map (·.id)
theorem idsT_len {l:List Evt} {j:Nat} (h:j≤l.length):(idsT l j).length=j:=by simp [idsT]; omega
theorem idsT_succ {l:List Evt} {j:Nat} (h:j<l.length):idsT l (j+1)=idsT l j++[l[j].id]:=by
 unfold idsT
 rw [← List.take_append_getElem h,List.map_append]; rfl
theorem drop_flat {e:Nat} {α : Type} {f : α → List Value} (hf : ∀ a,(f a).length=e) : ∀ (l:List α) (k:Nat),(l.flatMap f).drop (k*e)=(l.drop k).flatMap f
 | l,0=>by simp
 | [],k+1=>by simp
 | a::l,k+1=>by
  rw [List.flatMap_cons,List.drop_succ_cons,← drop_flat hf l k,Nat.add_mul,Nat.one_mul,Nat.add_comm (k*e) e,← List.drop_drop,List.drop_left' (hf a)]
theorem opF_sliceW {tab:Tab} {pf:PF} {T:Tm} {M:Mem} {n:Nat} {t:TypeId} {x:Operand} {lo:Option Operand} {ti:TI} {te:TypeId} {sz bytes b e m:Nat} {vs:List Value} (l:Nat) (ht:Sx.look tab t=some ti) (hs:ti.sh = .slc te sz bytes) (hx:ev T x=some (.opq b)) (hM:M b=some (.rwin e m vs)) (he:e=sz) (hlo:evO T lo=some (some (l:Int))) (hl:l≤m) :
  opF tab pf T M n (.slice t x lo none none)=some (.new (.opq n) (.rwin e (m-l) (vs.drop (l*e)))):=by
 subst he
 have hno:evO T none=some none:=rfl
 simp only [opF,opSlice,ht,hs,hx,hM,hlo,hno,Nat.beq_refl]
 rw [decide_eq_true (p:=0≤(l:Int)∧(l:Int)≤(m:Int)) ⟨by omega,by omega⟩]
 simp only [Int.toNat_natCast]
theorem ints_iv (l:List Int):(l.map fun x=>ii x)=(ints l).map .v:=by simp [ints]
theorem nrun_run (vN:Value) (inp:Int) (vE:Value) (l:List Evt) (ticks:Int) (w:World) (hN:RowsAt w vN 8 1 ([prm1].flatMap Prm.vals)) (hE:RowsAt w vE 2 l.length (l.flatMap Evt.vals)) :
  Calls Try.prog 24 #[netV vN (.slice none 0 0) ⟨[prm1],inp,[]⟩,vE,.int .i64 ticks] w fun e w'=>e = .returned (.tuple #[.slice none 0 0,.int .i64 (prepChk ⟨[prm1],inp,[]⟩ l ticks 10000)])∧Ext w w':=by
 have hc : ∀ L' rd,(∀ p,rd=some p→p∈L')→Cx.ok ⟨Try.prog,tab,[],24,Try.f24,[],w,L',rd⟩:=fun L' rd h=>⟨tab_ok,trivial,Try.func24,mixed,h⟩
 have hc2 : ∀ L' rd,(∀ p,rd=some p→p∈L')→Cx.ok ⟨Try.prog,tab,[(2000,fun _ _=>none)],61,Try.f61,[],w,L',rd⟩:=fun L' rd h=>⟨tab_ok,⟨trivial,trivial⟩,Try.func61,mixed,h⟩
 have hrows:AllP (fun x:Value × Nat × Nat × List Value=>RowsAt w x.1 x.2.1 x.2.2.1 x.2.2.2) [(vN,8,1,[prm1].flatMap Prm.vals),(vE,2,l.length,l.flatMap Evt.vals)]:=⟨hN,hE,trivial⟩
 refine Run.startW Try.func24 rfl _ hrows [.agg [.opq 0,ii inp,.v (.slice none 0 0)],.opq 1,ii ticks] [netV vN (.slice none 0 0) ⟨[prm1],inp,[]⟩,vE,.int .i64 ticks] [(0,.rwin 8 1 ([prm1].flatMap Prm.vals)),(1,.rwin 2 l.length (l.flatMap Evt.vals))] 2 rfl rfl
  (by show [Value.agg [(SV.opq 0).conc _,.int .i64 inp,.slice none 0 0].toArray,(SV.opq 1).conc _,_]=_; rw [conc_rows hrows (k:=0) rfl,conc_rows hrows (k:=1) rfl]; rfl) (by simp [SV.scs,SV.sc]) rfl (Run.of_wpK (hc [] none (fun _ h=>by cases h)) 1000 _ ?_)
 conv=>whnf
 obtain ⟨ck,hck⟩ : ∃ ck,prepChk ⟨[prm1],inp,[]⟩ l ticks 10000=ck:=⟨_,rfl⟩
 have h0S : ∀ w',RowsAt w' (.slice none 0 0) 4 0 []:=fun w'=>⟨rfl,none,0,rfl,Nat.le_refl _,.inl rfl⟩
 refine Run.callE (g:=58) (vs:=[.agg [.opq 0,ii inp,.v (.slice none 0 0)],.opq 1,ii ticks,ii 10000]) (caps:=[]) (ii ck) (fun ρ w1 hW=>by
  rw [← hck]
  exact prepared_run ((SV.opq 0).conc ρ) (.slice none 0 0) ⟨[prm1],inp,[]⟩ ((SV.opq 1).conc ρ) l ticks 10000 w1 ⟨hW.rowsAt rfl,h0S w1⟩ (hW.rowsAt rfl)) (ent _ _ Try.func58 (by kernel_rfl) rfl) rfl rfl rfl rfl rfl rfl rfl trivial ?_
 refine Run.of_wpK (hc [] none (fun _ h=>by cases h)) 1000 _ ?_
 conv=>whnf
 cases e1:ck != 0
 case true =>
  conv=>whnf
  exact ⟨fun ρ w' hW _=>⟨by rw [hck]; rfl,hW.toExt⟩⟩
 have e1':ck=0:=by simpa using e1
 conv=>whnf
 have hargs:wi ticks 0 10000=true∧l.length≤65536:=by
  rw [e1'] at hck
  unfold prepChk at hck
  split at hck
  ·rename_i h1; exact absurd hck h1
  split at hck
  ·cases hck
  rename_i h2
  refine ⟨by simpa using h2,?_⟩
  unfold evsChk at hck
  split at hck
  ·cases hck
  ·omega
 obtain ⟨hti,hll⟩:=hargs
 obtain ⟨ht0,ht1⟩:=wi_iff.1 hti
 obtain ⟨K,rfl⟩ : ∃ K:Nat,ticks=(K:Int):=⟨ticks.toNat,by omega⟩
 refine Run.callP (vs:=[.agg [.opq 0,ii inp,.v (.slice none 0 0)]]) (caps:=[]) (start_spec inp) (ent _ _ Try.func59 (by kernel_rfl) rfl) rfl rfl rfl rfl rfl rfl rfl (by decide) (by decide)
  ⟨⟨by omega,trivial,⟨_,rfl,Conv.refl _⟩,.inl rfl,fun _=>by simp⟩,trivial⟩ (fun i hi=>by cases hi) (.ptr 3 0) [(3,.cells [.opq 4,ii inp,.v (.slice none 0 0),.mp 5,ii 0,.opq 6,.opq 7,.opq 8,.opq 9,.opq 10,.opq 11,.opq 12,.opq 13,.opq 14,.opq 15,.opq 16,.opq 17,.opq 18,.opq 19,.opq 20,.opq 21,.opq 22] 170),(4,.row 8 1 (([prm1].flatMap Prm.vals).map .v) 60),(5,.kmap false true []),(6,.row 2 1 [ii 0,ii 0] 139),(7,.row 1 1 [ii 0] 3),(8,.row 1 1 [ii 0] 3),(9,.row 1 1 [ii 0] 3),(10,.row 1 1 [ii 0] 3),(11,.row 1 1 [ii 0] 3),(12,.row 1 1 [ii 0] 3),(13,.row 1 1 [ii 0] 3),(14,.row 1 1 [ii 0] 3),(15,.row 1 1 [ii 0] 3),(16,.row 1 1 [ii 0] 3),(17,.row 1 1 [ii 0] 3),(18,.row 1 1 [ii 0] 3),(19,.row 1 1 [ii 0] 3),(20,.row 1 1 [ii 0] 3),(21,.row 1 1 [ii 0] 3),(22,.row 1 1 [ii 0] 3),(2,.cells [.opq 0,ii inp,.v (.slice none 0 0)] 25),(0,.rwin 8 1 ([prm1].flatMap Prm.vals)),(1,.rwin 2 l.length (l.flatMap Evt.vals))] 23 rfl rfl
  ⟨.inr ⟨1,_,rfl,rfl,rfl,rfl⟩,.inr ⟨2,_,rfl,rfl,by simp only [SObj.ren,rens_v],rfl⟩,.inr ⟨3,_,rfl,rfl,rfl,rfl⟩,.inr ⟨4,_,rfl,rfl,rfl,rfl⟩,.inr ⟨5,_,rfl,rfl,rfl,rfl⟩,.inr ⟨6,_,rfl,rfl,rfl,rfl⟩,.inr ⟨7,_,rfl,rfl,rfl,rfl⟩,.inr ⟨8,_,rfl,rfl,rfl,rfl⟩,.inr ⟨9,_,rfl,rfl,rfl,rfl⟩,.inr ⟨10,_,rfl,rfl,rfl,rfl⟩,.inr ⟨11,_,rfl,rfl,rfl,rfl⟩,.inr ⟨12,_,rfl,rfl,rfl,rfl⟩,.inr ⟨13,_,rfl,rfl,rfl,rfl⟩,.inr ⟨14,_,rfl,rfl,rfl,rfl⟩,.inr ⟨15,_,rfl,rfl,rfl,rfl⟩,.inr ⟨16,_,rfl,rfl,rfl,rfl⟩,.inr ⟨17,_,rfl,rfl,rfl,rfl⟩,.inr ⟨18,_,rfl,rfl,rfl,rfl⟩,.inr ⟨19,_,rfl,rfl,rfl,rfl⟩,.inr ⟨20,_,rfl,rfl,rfl,rfl⟩,.inl ⟨rfl,by simp⟩,.inl ⟨rfl,by simp⟩,.inl ⟨rfl,by simp⟩,trivial⟩ ?_
 refine Run.of_wpK (hc [] none (fun _ h=>by cases h)) 1000 _ ?_
 conv=>whnf
 refine Run.pinAll fun plq hcovq => ?_
 have hne1 : ∀ x∈([(23,.cells [.opq 25] 128),(24,.pin plq),(25,.rwin 2 (evR l 0).length ((evR l 0).flatMap Evt.vals)),(3,.cells [.opq 4,ii inp,.v (.slice none 0 0),.mp 5,ii ((0:Nat):Int),.opq 6,.opq 7,.opq 8,.opq 9,.opq 10,.opq 11,.opq 12,.opq 13,.opq 14,.opq 15,.opq 16,.opq 17,.opq 18,.opq 19,.opq 20,.opq 21,.opq 22] 170),(4,.row 8 1 (([prm1].flatMap Prm.vals).map .v) 60),(5,.kmap false true []),(6,.row 2 1 [ii 0,ii 0] 139),(7,.row 1 1 [ii 0] 3),(8,.row 1 1 [ii 0] 3),(9,.row 1 1 [ii 0] 3),(10,.row 1 1 [ii 0] 3),(11,.row 1 1 [ii 0] 3),(12,.row 1 1 [ii 0] 3),(13,.row 1 1 [ii 0] 3),(14,.row 1 1 [ii 0] 3),(15,.row 1 1 [ii 0] 3),(16,.row 1 1 [ii 0] 3),(17,.row 1 1 [ii 0] 3),(18,.row 1 1 [ii 0] 3),(19,.row 1 1 [ii 0] 3),(20,.row 1 1 [ii 0] 3),(21,.row 1 1 [ii 0] 3),(22,.row 1 1 [ii 0] 3)]:List (Nat × SObj)),x.1≠1:=AllP.mem ⟨(show 23≠1 by decide),(show 24≠1 by decide),(show 25≠1 by decide),(show 3≠1 by decide),(show 4≠1 by decide),(show 5≠1 by decide),(show 6≠1 by decide),(show 7≠1 by decide),(show 8≠1 by decide),(show 9≠1 by decide),(show 10≠1 by decide),(show 11≠1 by decide),(show 12≠1 by decide),(show 13≠1 by decide),(show 14≠1 by decide),(show 15≠1 by decide),(show 16≠1 by decide),(show 17≠1 by decide),(show 18≠1 by decide),(show 19≠1 by decide),(show 20≠1 by decide),(show 21≠1 by decide),(show 22≠1 by decide),trivial⟩
 have hrqe : ∀ i,rq [(25,1)] i=if i=25 then 1 else i:=fun i=>by
  unfold rq
  rw [look_cons]
  by_cases e:i=25
  ·rw [if_pos e.symm,if_pos e]
  ·rw [if_neg (Ne.symm e),if_neg e]; rfl
 refine Run.less (s':=⟨[(9,.ptr 3 0),(10,.ptr 23 0),(11,.v (.slice none 0 0)),(27,ii (K:Int)),(28,ii ((0:Nat):Int))],[(23,.cells [.opq 25] 128),(24,.pin plq),(25,.rwin 2 (evR l 0).length ((evR l 0).flatMap Evt.vals)),(3,.cells [.opq 4,ii inp,.v (.slice none 0 0),.mp 5,ii ((0:Nat):Int),.opq 6,.opq 7,.opq 8,.opq 9,.opq 10,.opq 11,.opq 12,.opq 13,.opq 14,.opq 15,.opq 16,.opq 17,.opq 18,.opq 19,.opq 20,.opq 21,.opq 22] 170),(4,.row 8 1 (([prm1].flatMap Prm.vals).map .v) 60),(5,.kmap false true []),(6,.row 2 1 [ii 0,ii 0] 139),(7,.row 1 1 [ii 0] 3),(8,.row 1 1 [ii 0] 3),(9,.row 1 1 [ii 0] 3),(10,.row 1 1 [ii 0] 3),(11,.row 1 1 [ii 0] 3),(12,.row 1 1 [ii 0] 3),(13,.row 1 1 [ii 0] 3),(14,.row 1 1 [ii 0] 3),(15,.row 1 1 [ii 0] 3),(16,.row 1 1 [ii 0] 3),(17,.row 1 1 [ii 0] 3),(18,.row 1 1 [ii 0] 3),(19,.row 1 1 [ii 0] 3),(20,.row 1 1 [ii 0] 3),(21,.row 1 1 [ii 0] 3),(22,.row 1 1 [ii 0] 3)],26,[],_⟩) (rq [(25,1)]) ⟨AllP.mem ⟨⟨rfl,(show 3<26 by decide)⟩,⟨rfl,(show 23<26 by decide)⟩,⟨rfl,trivial⟩,⟨rfl,trivial⟩,⟨rfl,trivial⟩,trivial⟩,AllP.mem ⟨⟨rfl,(show 23<26 by decide),by simp [SObj.sc,SV.scs,SV.sc]⟩,⟨congrArg some (pin_fix hcovq (fun i hi=>rq_fix (rq_noneB (B:=24) rfl hi))).symm,(show 24<26 by decide),fun p hp=>Nat.lt_of_lt_of_le (hcovq.1 p hp) (show 24≤26 by decide)⟩,⟨rfl,(show 25<26 by decide),trivial⟩,⟨rfl,(show 3<26 by decide),by simp [SObj.sc,SV.scs,SV.sc]⟩,⟨congrArg some (oren_fix (S:=fun _=>False) (fun i hi=>hi.elim) (o := .row 8 1 (([prm1].flatMap Prm.vals).map .v) 60) (scs_v _ _)).symm,(show 4<26 by decide),scs_v _ _⟩,⟨rfl,(show 5<26 by decide),trivial⟩,⟨rfl,(show 6<26 by decide),by simp [SObj.sc,SV.scs,SV.sc]⟩,⟨rfl,(show 7<26 by decide),by simp [SObj.sc,SV.scs,SV.sc]⟩,⟨rfl,(show 8<26 by decide),by simp [SObj.sc,SV.scs,SV.sc]⟩,⟨rfl,(show 9<26 by decide),by simp [SObj.sc,SV.scs,SV.sc]⟩,⟨rfl,(show 10<26 by decide),by simp [SObj.sc,SV.scs,SV.sc]⟩,⟨rfl,(show 11<26 by decide),by simp [SObj.sc,SV.scs,SV.sc]⟩,⟨rfl,(show 12<26 by decide),by simp [SObj.sc,SV.scs,SV.sc]⟩,⟨rfl,(show 13<26 by decide),by simp [SObj.sc,SV.scs,SV.sc]⟩,⟨rfl,(show 14<26 by decide),by simp [SObj.sc,SV.scs,SV.sc]⟩,⟨rfl,(show 15<26 by decide),by simp [SObj.sc,SV.scs,SV.sc]⟩,⟨rfl,(show 16<26 by decide),by simp [SObj.sc,SV.scs,SV.sc]⟩,⟨rfl,(show 17<26 by decide),by simp [SObj.sc,SV.scs,SV.sc]⟩,⟨rfl,(show 18<26 by decide),by simp [SObj.sc,SV.scs,SV.sc]⟩,⟨rfl,(show 19<26 by decide),by simp [SObj.sc,SV.scs,SV.sc]⟩,⟨rfl,(show 20<26 by decide),by simp [SObj.sc,SV.scs,SV.sc]⟩,⟨rfl,(show 21<26 by decide),by simp [SObj.sc,SV.scs,SV.sc]⟩,⟨rfl,(show 22<26 by decide),by simp [SObj.sc,SV.scs,SV.sc]⟩,trivial⟩,(fun x hx y hy h => ?_),(fun p hp=>by cases hp),rfl,rfl⟩ ?_
 ·have h1:=hne1 x hx
  have h2:=hne1 y hy
  rw [hrqe,hrqe]
  split <;> split <;> omega
 refine Run.upToJ (T:=fun i=>[(9,.ptr 3 0),(10,.ptr 23 0),(11,.v (.slice none 0 0)),(27,ii (K:Int)),(28,ii ((i:Nat):Int))]) (M:=fun i=>[(23,.cells [.opq 25] 128),(24,.pin plq),(25,.rwin 2 (evR l i).length ((evR l i).flatMap Evt.vals)),(3,.cells [.opq 4,ii inp,.v (.slice none 0 0),.mp 5,ii ((i:Nat):Int),.opq 6,.opq 7,.opq 8,.opq 9,.opq 10,.opq 11,.opq 12,.opq 13,.opq 14,.opq 15,.opq 16,.opq 17,.opq 18,.opq 19,.opq 20,.opq 21,.opq 22] 170),(4,.row 8 1 (([prm1].flatMap Prm.vals).map .v) 60),(5,.kmap false true []),(6,.row 2 1 [ii 0,ii 0] 139),(7,.row 1 1 [ii 0] 3),(8,.row 1 1 [ii 0] 3),(9,.row 1 1 [ii 0] 3),(10,.row 1 1 [ii 0] 3),(11,.row 1 1 [ii 0] 3),(12,.row 1 1 [ii 0] 3),(13,.row 1 1 [ii 0] 3),(14,.row 1 1 [ii 0] 3),(15,.row 1 1 [ii 0] 3),(16,.row 1 1 [ii 0] 3),(17,.row 1 1 [ii 0] 3),(18,.row 1 1 [ii 0] 3),(19,.row 1 1 [ii 0] 3),(20,.row 1 1 [ii 0] 3),(21,.row 1 1 [ii 0] 3),(22,.row 1 1 [ii 0] 3)]) (fun _=>True) K trivial ?_ ?_
 ·intro i hi hJ ih
  refine Run.of_wpK (hc [] none (fun _ h=>by cases h)) 1000 _ ?_
  conv=>whnf
  obtain ⟨X,hX⟩ : ∃ X,evR l i=X:=⟨_,rfl⟩
  have hXl:X.length≤65536:=by rw [← hX]; exact Nat.le_trans (evR_len l i) hll
  rw [hX]
  have hev:evR l (i+1)=X.drop (nAt ((i:Nat):Int) X):=by show (evR l i).drop (nAt i (evR l i))=_; rw [hX]
  have hnl:=nAt_le ((i:Nat):Int) X
  rw [decide_eq_true (show ((i:Nat):Int)<(K:Int) by omega)]
  conv=>whnf
  refine Run.inlineF (T0:=[(9,.ptr 3 0),(10,.ptr 23 0),(11,.v (.slice none 0 0)),(12,ii ((i:Nat):Int)),(27,ii (K:Int)),(28,ii ((i:Nat):Int)),(31,.ptr 3 0)]) rfl rfl rfl rfl rfl rfl rfl (ent _ _ Try.func61 (by kernel_rfl) rfl) Try.func61 rfl rfl [] [(2000,fun _ _=>none)] hcovq rfl (fun v M' n'=>v = .opq 26∧M'=[(26,.row 1 (idsT X (nAt ((i:Nat):Int) X)).length ((idsT X (nAt ((i:Nat):Int) X)).map fun x=>ii x) 3),(23,.cells [.opq 25] 128),(24,.pin plq),(25,.rwin 2 (X.drop (nAt ((i:Nat):Int) X)).length ((X.drop (nAt ((i:Nat):Int) X)).flatMap Evt.vals)),(3,.cells [.opq 4,ii inp,.v (.slice none 0 0),.mp 5,ii ((i:Nat):Int),.opq 6,.opq 7,.opq 8,.opq 9,.opq 10,.opq 11,.opq 12,.opq 13,.opq 14,.opq 15,.opq 16,.opq 17,.opq 18,.opq 19,.opq 20,.opq 21,.opq 22] 170),(4,.row 8 1 (([prm1].flatMap Prm.vals).map .v) 60),(5,.kmap false true []),(6,.row 2 1 [ii 0,ii 0] 139),(7,.row 1 1 [ii 0] 3),(8,.row 1 1 [ii 0] 3),(9,.row 1 1 [ii 0] 3),(10,.row 1 1 [ii 0] 3),(11,.row 1 1 [ii 0] 3),(12,.row 1 1 [ii 0] 3),(13,.row 1 1 [ii 0] 3),(14,.row 1 1 [ii 0] 3),(15,.row 1 1 [ii 0] 3),(16,.row 1 1 [ii 0] 3),(17,.row 1 1 [ii 0] 3),(18,.row 1 1 [ii 0] 3),(19,.row 1 1 [ii 0] 3),(20,.row 1 1 [ii 0] 3),(21,.row 1 1 [ii 0] 3),(22,.row 1 1 [ii 0] 3)]∧n'=27) ?_ ?_ ?_
  ·exact AllP.mem ⟨⟨rfl,(show 3<24 by decide)⟩,⟨rfl,(show 23<24 by decide)⟩,⟨rfl,trivial⟩,⟨rfl,trivial⟩,⟨rfl,trivial⟩,⟨rfl,trivial⟩,⟨rfl,(show 3<24 by decide)⟩,trivial⟩
  ·refine Run.of_wpK (hc2 [] none (fun _ h=>by cases h)) 100 _ ?_
   conv=>whnf
   refine Run.nils (T':=[(0,.ptr 23 0),(1,ii ((i:Nat):Int)),(5,.opq 26)]) (M':=[(26,.row 1 (idsT X 0).length ((idsT X 0).map fun x=>ii x) 3),(23,.cells [.opq 25] 128),(24,.pin plq),(25,.rwin 2 (X.drop 0).length ((X.drop 0).flatMap Evt.vals)),(3,.cells [.opq 4,ii inp,.v (.slice none 0 0),.mp 5,ii ((i:Nat):Int),.opq 6,.opq 7,.opq 8,.opq 9,.opq 10,.opq 11,.opq 12,.opq 13,.opq 14,.opq 15,.opq 16,.opq 17,.opq 18,.opq 19,.opq 20,.opq 21,.opq 22] 170),(4,.row 8 1 (([prm1].flatMap Prm.vals).map .v) 60),(5,.kmap false true []),(6,.row 2 1 [ii 0,ii 0] 139),(7,.row 1 1 [ii 0] 3),(8,.row 1 1 [ii 0] 3),(9,.row 1 1 [ii 0] 3),(10,.row 1 1 [ii 0] 3),(11,.row 1 1 [ii 0] 3),(12,.row 1 1 [ii 0] 3),(13,.row 1 1 [ii 0] 3),(14,.row 1 1 [ii 0] 3),(15,.row 1 1 [ii 0] 3),(16,.row 1 1 [ii 0] 3),(17,.row 1 1 [ii 0] 3),(18,.row 1 1 [ii 0] 3),(19,.row 1 1 [ii 0] 3),(20,.row 1 1 [ii 0] 3),(21,.row 1 1 [ii 0] 3),(22,.row 1 1 [ii 0] 3)]) 1 (fun _ => .row 1 0 [] 3) (fun _ _ => .inl ⟨_,_,rfl⟩) ⟨⟨_,rfl,.inl rfl⟩,⟨_,rfl,.inl rfl⟩,⟨_,rfl,.inr (.inl ⟨rfl,0,by decide,rfl⟩)⟩,trivial⟩ ⟨.inl ⟨0,by decide,rfl⟩,.inr ⟨_,rfl,.inl rfl⟩,.inr ⟨_,rfl,.inl rfl⟩,.inr ⟨_,rfl,.inl rfl⟩,.inr ⟨_,rfl,.inl rfl⟩,.inr ⟨_,rfl,.inl rfl⟩,.inr ⟨_,rfl,.inl rfl⟩,.inr ⟨_,rfl,.inl rfl⟩,.inr ⟨_,rfl,.inl rfl⟩,.inr ⟨_,rfl,.inl rfl⟩,.inr ⟨_,rfl,.inl rfl⟩,.inr ⟨_,rfl,.inl rfl⟩,.inr ⟨_,rfl,.inl rfl⟩,.inr ⟨_,rfl,.inl rfl⟩,.inr ⟨_,rfl,.inl rfl⟩,.inr ⟨_,rfl,.inl rfl⟩,.inr ⟨_,rfl,.inl rfl⟩,.inr ⟨_,rfl,.inl rfl⟩,.inr ⟨_,rfl,.inl rfl⟩,.inr ⟨_,rfl,.inl rfl⟩,.inr ⟨_,rfl,.inl rfl⟩,.inr ⟨_,rfl,.inl rfl⟩,.inr ⟨_,rfl,.inl rfl⟩,.inr ⟨_,rfl,.inl rfl⟩,trivial⟩ ?_
   refine Run.upToJ (T:=fun _=>[(0,.ptr 23 0),(1,ii ((i:Nat):Int)),(5,.opq 26)]) (M:=fun j=>[(26,.row 1 (idsT X j).length ((idsT X j).map fun x=>ii x) 3),(23,.cells [.opq 25] 128),(24,.pin plq),(25,.rwin 2 (X.drop j).length ((X.drop j).flatMap Evt.vals)),(3,.cells [.opq 4,ii inp,.v (.slice none 0 0),.mp 5,ii ((i:Nat):Int),.opq 6,.opq 7,.opq 8,.opq 9,.opq 10,.opq 11,.opq 12,.opq 13,.opq 14,.opq 15,.opq 16,.opq 17,.opq 18,.opq 19,.opq 20,.opq 21,.opq 22] 170),(4,.row 8 1 (([prm1].flatMap Prm.vals).map .v) 60),(5,.kmap false true []),(6,.row 2 1 [ii 0,ii 0] 139),(7,.row 1 1 [ii 0] 3),(8,.row 1 1 [ii 0] 3),(9,.row 1 1 [ii 0] 3),(10,.row 1 1 [ii 0] 3),(11,.row 1 1 [ii 0] 3),(12,.row 1 1 [ii 0] 3),(13,.row 1 1 [ii 0] 3),(14,.row 1 1 [ii 0] 3),(15,.row 1 1 [ii 0] 3),(16,.row 1 1 [ii 0] 3),(17,.row 1 1 [ii 0] 3),(18,.row 1 1 [ii 0] 3),(19,.row 1 1 [ii 0] 3),(20,.row 1 1 [ii 0] 3),(21,.row 1 1 [ii 0] 3),(22,.row 1 1 [ii 0] 3)]) (fun _=>True) ((nAt ((i:Nat):Int) X)) trivial ?_ ?_
   ·intro j hj _ ih2
    obtain ⟨hj1,hj2⟩:=nAt_lt hj
    have h0:0<(X.drop j).length:=by rw [List.length_drop]; omega
    have e0:(X.drop j)[0]=X[j]:=by simp
    refine Run.of_wpK (hc2 [] none (fun _ h=>by cases h)) 1000 _ ?_
    conv=>whnf
    rw [decide_eq_true (show (0:Int)<((X.drop j).length:Int) by omega)]
    conv=>whnf
    refine ⟨by omega,?_⟩
    conv=>whnf
    rw [opF_loadWf (f:=Evt.vals) (l:=X.drop j) (c := .int .i64 (X.drop j)[0].tick) 0 0 rfl rfl rfl rfl Evt.vlen rfl h0 (by decide) rfl]
    conv=>whnf
    rw [e0,hj2,show (((i:Nat):Int)==((i:Nat):Int))=true by simp]
    conv=>whnf
    refine ⟨by omega,?_⟩
    conv=>whnf
    rw [opF_loadWf (f:=Evt.vals) (l:=X.drop j) (c := .int .i64 (X.drop j)[0].id) 0 1 rfl rfl rfl rfl Evt.vlen rfl h0 (by decide) rfl]
    conv=>whnf
    rw [e0]
    conv=>whnf
    have hil:=idsT_len (show j≤X.length by omega)
    refine ⟨by omega,?_⟩
    conv=>whnf
    rw [opF_sliceW 1 rfl rfl rfl rfl rfl rfl (by omega),drop_flat Evt.vlen,List.drop_drop,show (X.drop j).length-1=(X.drop (j+1)).length by simp; omega]
    conv=>whnf
    refine Run.trimQ (T':=[(0,.ptr 23 0),(1,ii ((i:Nat):Int)),(5,.opq 26)]) (M':=[(26,.row 1 (idsT X (j+1)).length ((idsT X (j+1)).map fun x=>ii x) 3),(23,.cells [.opq 25] 128),(24,.pin plq),(25,.rwin 2 (X.drop (j+1)).length ((X.drop (j+1)).flatMap Evt.vals)),(3,.cells [.opq 4,ii inp,.v (.slice none 0 0),.mp 5,ii ((i:Nat):Int),.opq 6,.opq 7,.opq 8,.opq 9,.opq 10,.opq 11,.opq 12,.opq 13,.opq 14,.opq 15,.opq 16,.opq 17,.opq 18,.opq 19,.opq 20,.opq 21,.opq 22] 170),(4,.row 8 1 (([prm1].flatMap Prm.vals).map .v) 60),(5,.kmap false true []),(6,.row 2 1 [ii 0,ii 0] 139),(7,.row 1 1 [ii 0] 3),(8,.row 1 1 [ii 0] 3),(9,.row 1 1 [ii 0] 3),(10,.row 1 1 [ii 0] 3),(11,.row 1 1 [ii 0] 3),(12,.row 1 1 [ii 0] 3),(13,.row 1 1 [ii 0] 3),(14,.row 1 1 [ii 0] 3),(15,.row 1 1 [ii 0] 3),(16,.row 1 1 [ii 0] 3),(17,.row 1 1 [ii 0] 3),(18,.row 1 1 [ii 0] 3),(19,.row 1 1 [ii 0] 3),(20,.row 1 1 [ii 0] 3),(21,.row 1 1 [ii 0] 3),(22,.row 1 1 [ii 0] 3)]) (rq [(26,28),(28,26),(25,29),(29,25)]) 27 ?_ ?_ ?_ ?_ (ih2 trivial)
    ·intro i hi j hj hne he
     have inv : ∀ i,i<27→rq [(26,28),(28,26),(25,29),(29,25)] (rq [(26,28),(28,26),(25,29),(29,25)] i)=i:=by decide
     exact hne (by rw [← inv i hi,he,inv j hj])
    ·exact ⟨⟨rfl,(show 23<27 by decide)⟩,⟨rfl,trivial⟩,⟨rfl,(show 26<27 by decide)⟩,trivial⟩
    ·exact ⟨⟨by rw [oren_fix (S:=fun _=>False) (fun i hi=>hi.elim) (o := .row 1 (idsT X (j+1)).length ((idsT X (j+1)).map fun x=>ii x) 3) (scs_i _ _),idsT_succ hj1,List.length_append,List.map_append]; rfl,by omega,scs_i _ _⟩,⟨rfl,by omega,by simp [SObj.sc,SV.scs,SV.sc]⟩,⟨congrArg some (pin_fix hcovq (fun i hi=>rq_fix (rq_noneB (B:=24) rfl hi))).symm,by omega,fun p hp=>Nat.lt_of_lt_of_le (hcovq.1 p hp) (show 24≤27 by decide)⟩,⟨rfl,by omega,trivial⟩,⟨rfl,by omega,by simp [SObj.sc,SV.scs,SV.sc]⟩,⟨congrArg some (oren_fix (S:=fun _=>False) (fun i hi=>hi.elim) (o := .row 8 1 (([prm1].flatMap Prm.vals).map .v) 60) (scs_v _ _)).symm,by omega,scs_v _ _⟩,⟨rfl,by omega,trivial⟩,⟨rfl,by omega,by simp [SObj.sc,SV.scs,SV.sc]⟩,⟨rfl,by omega,by simp [SObj.sc,SV.scs,SV.sc]⟩,⟨rfl,by omega,by simp [SObj.sc,SV.scs,SV.sc]⟩,⟨rfl,by omega,by simp [SObj.sc,SV.scs,SV.sc]⟩,⟨rfl,by omega,by simp [SObj.sc,SV.scs,SV.sc]⟩,⟨rfl,by omega,by simp [SObj.sc,SV.scs,SV.sc]⟩,⟨rfl,by omega,by simp [SObj.sc,SV.scs,SV.sc]⟩,⟨rfl,by omega,by simp [SObj.sc,SV.scs,SV.sc]⟩,⟨rfl,by omega,by simp [SObj.sc,SV.scs,SV.sc]⟩,⟨rfl,by omega,by simp [SObj.sc,SV.scs,SV.sc]⟩,⟨rfl,by omega,by simp [SObj.sc,SV.scs,SV.sc]⟩,⟨rfl,by omega,by simp [SObj.sc,SV.scs,SV.sc]⟩,⟨rfl,by omega,by simp [SObj.sc,SV.scs,SV.sc]⟩,⟨rfl,by omega,by simp [SObj.sc,SV.scs,SV.sc]⟩,⟨rfl,by omega,by simp [SObj.sc,SV.scs,SV.sc]⟩,⟨rfl,by omega,by simp [SObj.sc,SV.scs,SV.sc]⟩,⟨rfl,by omega,by simp [SObj.sc,SV.scs,SV.sc]⟩,trivial⟩
    ·intro p hp; cases hp
   ·intro _
    refine Run.of_wpK (hc2 [] none (fun _ h=>by cases h)) 1000 _ ?_
    conv=>whnf
    by_cases hlt:(nAt ((i:Nat):Int) X)<X.length
    ·have h0:0<(X.drop (nAt ((i:Nat):Int) X)).length:=by rw [List.length_drop]; omega
     have e0:(X.drop (nAt ((i:Nat):Int) X))[0]=X[(nAt ((i:Nat):Int) X)]:=by simp
     have hne:=nAt_end hlt
     rw [decide_eq_true (show (0:Int)<((X.drop (nAt ((i:Nat):Int) X)).length:Int) by omega)]
     conv=>whnf
     refine ⟨by omega,?_⟩
     conv=>whnf
     rw [opF_loadWf (f:=Evt.vals) (l:=X.drop (nAt ((i:Nat):Int) X)) (c := .int .i64 (X.drop (nAt ((i:Nat):Int) X))[0].tick) 0 0 rfl rfl rfl rfl Evt.vlen rfl h0 (by decide) rfl]
     conv=>whnf
     rw [e0,show (X[(nAt ((i:Nat):Int) X)].tick==((i:Nat):Int))=false by simpa using hne]
     conv=>whnf
     exact ⟨fun ρ w' hW _=>⟨ρ,.opq 26,[(26,.row 1 (idsT X (nAt ((i:Nat):Int) X)).length ((idsT X (nAt ((i:Nat):Int) X)).map fun x=>ii x) 3),(23,.cells [.opq 25] 128),(24,.pin plq),(25,.rwin 2 (X.drop (nAt ((i:Nat):Int) X)).length ((X.drop (nAt ((i:Nat):Int) X)).flatMap Evt.vals)),(3,.cells [.opq 4,ii inp,.v (.slice none 0 0),.mp 5,ii ((i:Nat):Int),.opq 6,.opq 7,.opq 8,.opq 9,.opq 10,.opq 11,.opq 12,.opq 13,.opq 14,.opq 15,.opq 16,.opq 17,.opq 18,.opq 19,.opq 20,.opq 21,.opq 22] 170),(4,.row 8 1 (([prm1].flatMap Prm.vals).map .v) 60),(5,.kmap false true []),(6,.row 2 1 [ii 0,ii 0] 139),(7,.row 1 1 [ii 0] 3),(8,.row 1 1 [ii 0] 3),(9,.row 1 1 [ii 0] 3),(10,.row 1 1 [ii 0] 3),(11,.row 1 1 [ii 0] 3),(12,.row 1 1 [ii 0] 3),(13,.row 1 1 [ii 0] 3),(14,.row 1 1 [ii 0] 3),(15,.row 1 1 [ii 0] 3),(16,.row 1 1 [ii 0] 3),(17,.row 1 1 [ii 0] 3),(18,.row 1 1 [ii 0] 3),(19,.row 1 1 [ii 0] 3),(20,.row 1 1 [ii 0] 3),(21,.row 1 1 [ii 0] 3),(22,.row 1 1 [ii 0] 3)],27,rfl,rfl,(show 26<27 by decide),hW,rfl,rfl,rfl⟩⟩
    ·have h0:(X.drop (nAt ((i:Nat):Int) X)).length=0:=by rw [List.length_drop]; omega
     rw [decide_eq_false (show ¬ (0:Int)<((X.drop (nAt ((i:Nat):Int) X)).length:Int) by omega)]
     conv=>whnf
     exact ⟨fun ρ w' hW _=>⟨ρ,.opq 26,[(26,.row 1 (idsT X (nAt ((i:Nat):Int) X)).length ((idsT X (nAt ((i:Nat):Int) X)).map fun x=>ii x) 3),(23,.cells [.opq 25] 128),(24,.pin plq),(25,.rwin 2 (X.drop (nAt ((i:Nat):Int) X)).length ((X.drop (nAt ((i:Nat):Int) X)).flatMap Evt.vals)),(3,.cells [.opq 4,ii inp,.v (.slice none 0 0),.mp 5,ii ((i:Nat):Int),.opq 6,.opq 7,.opq 8,.opq 9,.opq 10,.opq 11,.opq 12,.opq 13,.opq 14,.opq 15,.opq 16,.opq 17,.opq 18,.opq 19,.opq 20,.opq 21,.opq 22] 170),(4,.row 8 1 (([prm1].flatMap Prm.vals).map .v) 60),(5,.kmap false true []),(6,.row 2 1 [ii 0,ii 0] 139),(7,.row 1 1 [ii 0] 3),(8,.row 1 1 [ii 0] 3),(9,.row 1 1 [ii 0] 3),(10,.row 1 1 [ii 0] 3),(11,.row 1 1 [ii 0] 3),(12,.row 1 1 [ii 0] 3),(13,.row 1 1 [ii 0] 3),(14,.row 1 1 [ii 0] 3),(15,.row 1 1 [ii 0] 3),(16,.row 1 1 [ii 0] 3),(17,.row 1 1 [ii 0] 3),(18,.row 1 1 [ii 0] 3),(19,.row 1 1 [ii 0] 3),(20,.row 1 1 [ii 0] 3),(21,.row 1 1 [ii 0] 3),(22,.row 1 1 [ii 0] 3)],27,rfl,rfl,(show 26<27 by decide),hW,rfl,rfl,rfl⟩⟩

  ·rintro v M' n' ⟨rfl,rfl,rfl⟩
   have hnl2:(idsT X (nAt ((i:Nat):Int) X)).length≤65536:=by rw [idsT_len hnl]; omega
   have hisn : ∀ k:Nat,(3+0≠k∧3+3≠k∧(k<7∨22<k)) → ∀ q∈([0,3,4,5,6,7,8,9,10,11,12,13,14,15,16,17,18,19]:List Nat),(fun q=>if q=20 then 26 else 3+q) q≠k:=by
    intro k hk q hq
    have hq2:q=0∨q=3∨(4≤q∧q≤19):=by simp at hq; omega
    show (if q=20 then 26 else 3+q)≠k
    rw [if_neg (by omega)]; omega
   refine Run.of_wpK (hc [] none (fun _ h=>by cases h)) 1000 _ ?_
   conv=>whnf
   refine Run.callR (vs:=[.ptr 0 0,.opq 20]) (caps:=[]) (caps2:=[]) (sim_spec inp ((i:Nat):Int) (idsT X (nAt ((i:Nat):Int) X)) (by omega) (by omega) (by omega)) (ent _ _ Try.func60 (by kernel_rfl) rfl) rfl rfl rfl rfl rfl rfl [.ptr 3 0,.opq 26] rfl (fun q=>if q=20 then 26 else 3+q) rfl (fun q hq=>by show (if q=20 then 26 else 3+q)<27; split <;> omega) (fun q hq j hj hne=>by show (if q=20 then 26 else 3+q)≠(if j=20 then 26 else 3+j); split <;> split <;> omega) (by decide)
    ⟨⟨by omega,SV.scs_lt (by decide) (simC_sc _ _),⟨_,rfl,Conv.refl _⟩,.inr (by simp),fun h=>by cases h⟩,⟨by omega,trivial,⟨_,rfl,Conv.row (by decide) rfl⟩,.inl rfl,fun _=>by simp⟩,⟨by omega,trivial,⟨_,rfl,Conv.map⟩,.inl rfl,fun _=>by simp⟩,⟨by omega,by simp [SObj.sc,SV.scs,SV.sc],⟨_,rfl,Conv.refl _⟩,.inr (by simp),fun h=>by cases h⟩,⟨by omega,by simp [SObj.sc,SV.scs,SV.sc],⟨_,rfl,Conv.refl _⟩,.inr (by simp),fun h=>by cases h⟩,⟨by omega,by simp [SObj.sc,SV.scs,SV.sc],⟨_,rfl,Conv.refl _⟩,.inr (by simp),fun h=>by cases h⟩,⟨by omega,by simp [SObj.sc,SV.scs,SV.sc],⟨_,rfl,Conv.refl _⟩,.inr (by simp),fun h=>by cases h⟩,⟨by omega,by simp [SObj.sc,SV.scs,SV.sc],⟨_,rfl,Conv.refl _⟩,.inr (by simp),fun h=>by cases h⟩,⟨by omega,by simp [SObj.sc,SV.scs,SV.sc],⟨_,rfl,Conv.refl _⟩,.inr (by simp),fun h=>by cases h⟩,⟨by omega,by simp [SObj.sc,SV.scs,SV.sc],⟨_,rfl,Conv.refl _⟩,.inr (by simp),fun h=>by cases h⟩,⟨by omega,by simp [SObj.sc,SV.scs,SV.sc],⟨_,rfl,Conv.refl _⟩,.inr (by simp),fun h=>by cases h⟩,⟨by omega,by simp [SObj.sc,SV.scs,SV.sc],⟨_,rfl,Conv.refl _⟩,.inr (by simp),fun h=>by cases h⟩,⟨by omega,by simp [SObj.sc,SV.scs,SV.sc],⟨_,rfl,Conv.refl _⟩,.inr (by simp),fun h=>by cases h⟩,⟨by omega,by simp [SObj.sc,SV.scs,SV.sc],⟨_,rfl,Conv.refl _⟩,.inr (by simp),fun h=>by cases h⟩,⟨by omega,by simp [SObj.sc,SV.scs,SV.sc],⟨_,rfl,Conv.refl _⟩,.inr (by simp),fun h=>by cases h⟩,⟨by omega,by simp [SObj.sc,SV.scs,SV.sc],⟨_,rfl,Conv.refl _⟩,.inr (by simp),fun h=>by cases h⟩,⟨by omega,by simp [SObj.sc,SV.scs,SV.sc],⟨_,rfl,Conv.refl _⟩,.inr (by simp),fun h=>by cases h⟩,⟨by omega,by simp [SObj.sc,SV.scs,SV.sc],⟨_,rfl,Conv.refl _⟩,.inr (by simp),fun h=>by cases h⟩,⟨by omega,by simp [SObj.sc,SV.scs,SV.sc],⟨_,rfl,Conv.refl _⟩,.inr (by simp),fun h=>by cases h⟩,⟨by omega,by simp [SObj.sc,SV.scs,SV.sc],⟨_,rfl,Conv.refl _⟩,.inr (by simp),fun h=>by cases h⟩,⟨by omega,trivial,⟨_,rfl,Conv.row (by decide) (ints_iv _)⟩,.inl rfl,fun _=>by simp⟩,trivial⟩ (fun q hq=>by
     have hq2:q=0∨q=3∨q=4∨q=5∨q=6∨q=7∨q=8∨q=9∨q=10∨q=11∨q=12∨q=13∨q=14∨q=15∨q=16∨q=17∨q=18∨q=19:=by simpa using hq
     rcases hq2 with rfl | rfl | rfl | rfl | rfl | rfl | rfl | rfl | rfl | rfl | rfl | rfl | rfl | rfl | rfl | rfl | rfl | rfl <;> exact ⟨by omega,_,rfl⟩) (.v (.slice none 0 0)) [(26,.row 1 (idsT X (nAt ((i:Nat):Int) X)).length ((idsT X (nAt ((i:Nat):Int) X)).map fun x=>ii x) 3),(23,.cells [.opq 25] 128),(24,.pin plq),(25,.rwin 2 (X.drop (nAt ((i:Nat):Int) X)).length ((X.drop (nAt ((i:Nat):Int) X)).flatMap Evt.vals)),(3,.cells [.opq 4,ii inp,.v (.slice none 0 0),.mp 5,ii ((i+1:Nat):Int),.opq 6,.opq 7,.opq 8,.opq 9,.opq 10,.opq 11,.opq 12,.opq 13,.opq 14,.opq 15,.opq 16,.opq 17,.opq 18,.opq 19,.opq 20,.opq 21,.opq 22] 170),(4,.row 8 1 (([prm1].flatMap Prm.vals).map .v) 60),(5,.kmap false true []),(6,.row 2 1 [ii 0,ii 0] 139),(7,.row 1 1 [ii 0] 3),(8,.row 1 1 [ii 0] 3),(9,.row 1 1 [ii 0] 3),(10,.row 1 1 [ii 0] 3),(11,.row 1 1 [ii 0] 3),(12,.row 1 1 [ii 0] 3),(13,.row 1 1 [ii 0] 3),(14,.row 1 1 [ii 0] 3),(15,.row 1 1 [ii 0] 3),(16,.row 1 1 [ii 0] 3),(17,.row 1 1 [ii 0] 3),(18,.row 1 1 [ii 0] 3),(19,.row 1 1 [ii 0] 3),(20,.row 1 1 [ii 0] 3),(21,.row 1 1 [ii 0] 3),(22,.row 1 1 [ii 0] 3)] 27 rfl rfl
    ⟨.inl ⟨rfl,hisn 26 (by decide)⟩,.inl ⟨rfl,hisn 23 (by decide)⟩,.inl ⟨rfl,hisn 24 (by decide)⟩,.inl ⟨rfl,hisn 25 (by decide)⟩,.inr ⟨0,_,rfl,rfl,by rw [show W (((i:Nat):Int)+1)=((i+1:Nat):Int) from wrap_succ (by omega)]; rfl,rfl⟩,.inl ⟨rfl,hisn 4 (by decide)⟩,.inl ⟨rfl,hisn 5 (by decide)⟩,.inr ⟨3,_,rfl,rfl,rfl,rfl⟩,.inr ⟨4,_,rfl,rfl,rfl,rfl⟩,.inr ⟨5,_,rfl,rfl,rfl,rfl⟩,.inr ⟨6,_,rfl,rfl,rfl,rfl⟩,.inr ⟨7,_,rfl,rfl,rfl,rfl⟩,.inr ⟨8,_,rfl,rfl,rfl,rfl⟩,.inr ⟨9,_,rfl,rfl,rfl,rfl⟩,.inr ⟨10,_,rfl,rfl,rfl,rfl⟩,.inr ⟨11,_,rfl,rfl,rfl,rfl⟩,.inr ⟨12,_,rfl,rfl,rfl,rfl⟩,.inr ⟨13,_,rfl,rfl,rfl,rfl⟩,.inr ⟨14,_,rfl,rfl,rfl,rfl⟩,.inr ⟨15,_,rfl,rfl,rfl,rfl⟩,.inr ⟨16,_,rfl,rfl,rfl,rfl⟩,.inr ⟨17,_,rfl,rfl,rfl,rfl⟩,.inr ⟨18,_,rfl,rfl,rfl,rfl⟩,.inr ⟨19,_,rfl,rfl,rfl,rfl⟩,trivial⟩ ?_
   refine Run.of_wpK (hc [] none (fun _ h=>by cases h)) 1000 _ ?_
   conv=>whnf
   refine Run.of_wpK (hc [] none (fun _ h=>by cases h)) 1000 _ ?_
   conv=>whnf
   refine Run.trim (T':=[(9,.ptr 3 0),(10,.ptr 23 0),(11,.v (.slice none 0 0)),(27,ii (K:Int)),(28,ii ((i+1:Nat):Int))]) (M':=[(23,.cells [.opq 25] 128),(24,.pin plq),(25,.rwin 2 (evR l (i+1)).length ((evR l (i+1)).flatMap Evt.vals)),(3,.cells [.opq 4,ii inp,.v (.slice none 0 0),.mp 5,ii ((i+1:Nat):Int),.opq 6,.opq 7,.opq 8,.opq 9,.opq 10,.opq 11,.opq 12,.opq 13,.opq 14,.opq 15,.opq 16,.opq 17,.opq 18,.opq 19,.opq 20,.opq 21,.opq 22] 170),(4,.row 8 1 (([prm1].flatMap Prm.vals).map .v) 60),(5,.kmap false true []),(6,.row 2 1 [ii 0,ii 0] 139),(7,.row 1 1 [ii 0] 3),(8,.row 1 1 [ii 0] 3),(9,.row 1 1 [ii 0] 3),(10,.row 1 1 [ii 0] 3),(11,.row 1 1 [ii 0] 3),(12,.row 1 1 [ii 0] 3),(13,.row 1 1 [ii 0] 3),(14,.row 1 1 [ii 0] 3),(15,.row 1 1 [ii 0] 3),(16,.row 1 1 [ii 0] 3),(17,.row 1 1 [ii 0] 3),(18,.row 1 1 [ii 0] 3),(19,.row 1 1 [ii 0] 3),(20,.row 1 1 [ii 0] 3),(21,.row 1 1 [ii 0] 3),(22,.row 1 1 [ii 0] 3)]) 26 ?_ ?_ (fun p hp=>by cases hp) (ih trivial)
   ·exact ⟨⟨rfl,(show 3<26 by decide)⟩,⟨rfl,(show 23<26 by decide)⟩,⟨rfl,trivial⟩,⟨rfl,trivial⟩,⟨congrArg some (congrArg ii (wrap_succ (by omega))),trivial⟩,trivial⟩
   ·exact ⟨⟨rfl,by omega,by simp [SObj.sc,SV.scs,SV.sc]⟩,⟨rfl,by omega,fun p hp=>Nat.lt_of_lt_of_le (hcovq.1 p hp) (show 24≤26 by decide)⟩,⟨by rw [hev]; rfl,by omega,trivial⟩,⟨rfl,by omega,by simp [SObj.sc,SV.scs,SV.sc]⟩,⟨rfl,by omega,scs_v _ _⟩,⟨rfl,by omega,trivial⟩,⟨rfl,by omega,by simp [SObj.sc,SV.scs,SV.sc]⟩,⟨rfl,by omega,by simp [SObj.sc,SV.scs,SV.sc]⟩,⟨rfl,by omega,by simp [SObj.sc,SV.scs,SV.sc]⟩,⟨rfl,by omega,by simp [SObj.sc,SV.scs,SV.sc]⟩,⟨rfl,by omega,by simp [SObj.sc,SV.scs,SV.sc]⟩,⟨rfl,by omega,by simp [SObj.sc,SV.scs,SV.sc]⟩,⟨rfl,by omega,by simp [SObj.sc,SV.scs,SV.sc]⟩,⟨rfl,by omega,by simp [SObj.sc,SV.scs,SV.sc]⟩,⟨rfl,by omega,by simp [SObj.sc,SV.scs,SV.sc]⟩,⟨rfl,by omega,by simp [SObj.sc,SV.scs,SV.sc]⟩,⟨rfl,by omega,by simp [SObj.sc,SV.scs,SV.sc]⟩,⟨rfl,by omega,by simp [SObj.sc,SV.scs,SV.sc]⟩,⟨rfl,by omega,by simp [SObj.sc,SV.scs,SV.sc]⟩,⟨rfl,by omega,by simp [SObj.sc,SV.scs,SV.sc]⟩,⟨rfl,by omega,by simp [SObj.sc,SV.scs,SV.sc]⟩,⟨rfl,by omega,by simp [SObj.sc,SV.scs,SV.sc]⟩,⟨rfl,by omega,by simp [SObj.sc,SV.scs,SV.sc]⟩,trivial⟩

 ·intro _
  refine Run.of_wpK (hc [] none (fun _ h=>by cases h)) 1000 _ ?_
  conv=>whnf
  rw [decide_eq_false (show ¬ ((K:Nat):Int)<(K:Int) by omega)]
  conv=>whnf
  exact ⟨fun ρ w' hW _=>⟨by rw [hck,e1']; rfl,hW.toExt⟩⟩
end Go.Proofs.Ytnnlpdgnlccbjaa
namespace Go.Sx
/-- A map that was told to be one, told as one that may be nil. -/
def WeakO (o o':SObj):Prop:=o'=o ∨ ∃ pk l,o = .kmap pk true l∧o' = .kmap pk false l
theorem Run.weak {c:Cx} {T:List (Nat × SV)} {M M':List (Nat × SObj)} {n:Nat} {D:List Deferred} {todo:List Item} {R:Ending→World→Prop} (hM:AllP (fun x => ∃ o,look M x.1=some o∧WeakO o x.2) M') (h:Run c ⟨T,M',n,D,todo⟩ R):Run c ⟨T,M,n,D,todo⟩ R:=by
 refine ⟨fun ρ a w hi=>h.go ρ a w ⟨hi.sz,hi.tm,hi.df,⟨?_,?_,?_,hi.wi.lid,hi.wi.keep,hi.wi.size,hi.wi.os,hi.wi.tape,hi.wi.output⟩⟩⟩
 ·intro i o hi'
  obtain ⟨o0,h1,h2⟩:=hM.mem _ (look_mem hi')
  obtain ⟨g1,g2,g3⟩:=hi.wi.mem i o0 h1
  rcases h2 with h2 | ⟨pk,l,rfl,h2⟩
  ·simp only at h2; subst h2; exact ⟨g1,g2,g3⟩
  ·simp only at h2; subst h2
   refine ⟨g1,trivial,g3.1,?_⟩
   rcases g3.2 with g | ⟨g,_⟩
   ·exact .inl g
   ·cases g
 ·intro i j oi oj hi' hj' hne ho ho'
  obtain ⟨o1,h1,h2⟩:=hM.mem _ (look_mem hi')
  obtain ⟨o2,h3,h4⟩:=hM.mem _ (look_mem hj')
  refine hi.wi.dist i j o1 o2 h1 h3 hne ?_ ?_
  ·rcases h2 with h2 | ⟨pk,l,rfl,h2⟩ <;> simp only at h2 <;> subst h2 <;> exact ho
  ·rcases h4 with h4 | ⟨pk,l,rfl,h4⟩ <;> simp only at h4 <;> subst h4 <;> exact ho'
 ·intro i o hi' ho
  obtain ⟨o1,h1,h2⟩:=hM.mem _ (look_mem hi')
  refine hi.wi.new i o1 h1 ?_
  rcases h2 with h2 | ⟨pk,l,rfl,h2⟩ <;> simp only at h2 <;> subst h2 <;> exact ho
end Go.Sx
namespace Go.Proofs.Ytnnlpdgnlccbjaa
open Go.Sx
set_option maxRecDepth 100000
set_option maxHeartbeats 4000000
def nPz (t:Int):List Prz→Nat
 | []=>0
 | x::l=>if x.tick=t then nPz t l+1 else 0
theorem nPz_le (t:Int) : ∀ l:List Prz,nPz t l≤l.length
 | []=>Nat.le_refl _
 | x::l=>by
  unfold nPz
  have:=nPz_le t l
  split
  ·simp; omega
  ·omega
theorem nPz_lt {t:Int} : ∀ {l:List Prz} {i:Nat},i<nPz t l → ∃ h:i<l.length,l[i].tick=t
 | [],i,h=>by simp [nPz] at h
 | x::l,i,h=>by
  unfold nPz at h
  split at h
  ·rename_i e
   cases i with
   | zero=>exact ⟨by simp,e⟩
   | succ i =>
    obtain ⟨h1,h2⟩:=nPz_lt (t:=t) (l:=l) (i:=i) (by omega)
    exact ⟨by simpa using h1,by simpa using h2⟩
  ·omega
theorem nPz_end {t:Int} : ∀ {l:List Prz} (h:nPz t l<l.length),l[nPz t l].tick≠t
 | [],h=>by simp at h
 | x::l,h=>by
  unfold nPz at h
  split at h
  ·rename_i e
   have h':nPz t l<l.length:=by simpa using h
   have:=nPz_end h'
   simp only [nPz,if_pos e,List.getElem_cons_succ]
   exact this
  ·rename_i e
   simp only [nPz,if_neg e,List.getElem_cons_zero]
   exact e
def pzR (l:List Prz):Nat→List Prz
 | 0=>l
 | i+1=>(pzR l i).drop (nPz i (pzR l i))
theorem pzR_len (l:List Prz) : ∀ i,(pzR l i).length≤l.length
 | 0=>Nat.le_refl _
 | i+1=>by
  unfold pzR
  rw [List.length_drop]
  have:=pzR_len l i
  omega
theorem pzR_mem (l:List Prz) : ∀ i x,x∈pzR l i→x∈l
 | 0,_,h=>h
 | i+1,x,h=>pzR_mem l i x (List.mem_of_mem_drop h)
/-- The rewards of a tick, behind some prizes. -/
def rwSt (r:List Int) (x:Prz):List Int:=r.set x.id.toNat x.val
def rwY (R:Nat) (l:List Prz) (j:Nat):List Int:=(l.take j).foldl rwSt (List.replicate R 0)
theorem rwY_succ {R:Nat} {l:List Prz} {j:Nat} (h:j<l.length):rwY R l (j+1)=(rwY R l j).set l[j].id.toNat l[j].val:=by
 unfold rwY
 rw [← List.take_append_getElem h,List.foldl_append]; rfl
theorem rwY_len (R:Nat) (l:List Prz) (j:Nat):(rwY R l j).length=R:=by
 unfold rwY
 have : ∀ (l:List Prz) (r:List Int),(l.foldl rwSt r).length=r.length:=by
  intro l
  induction l with
  | nil=>intro r; rfl
  | cons a l ih=>intro r; rw [List.foldl_cons,ih]; simp [rwSt]
 rw [this,List.length_replicate]
theorem pzs_rule {rules:Int} {l:List Prz} (h:pzsChk rules l=0) (h0:0≤rules∧rules≤16) : ∀ x∈l,0≤x.id∧x.id<rules ∧ -128≤x.val∧x.val≤127:=by
 intro x hx
 unfold pzsChk at h
 split at h
 ·cases h
 obtain ⟨i,hi,rfl⟩:=List.getElem_of_mem hx
 have:=firstE_zero h i (by simpa using hi)
 simp only [List.getElem_range] at this
 unfold pzAt at this
 have e:l.getD i prz0=l[i]:=by simp [List.getD_eq_getElem?_getD,hi]
 rw [e] at this
 split at this
 ·cases this
 rename_i hw
 simp only [Bool.not_eq_false,Bool.and_eq_true,wi_iff] at hw
 have e2:W (rules-1)=rules-1:=W_id (by omega) (by omega)
 rw [e2] at hw
 omega
/-- The learner behind some ticks. -/
def trIn (l:List Evt) (i:Nat):List Int:=idsT (evR l i) (nAt i (evR l i))
def trRw (R:Nat) (p:List Prz) (i:Nat):List Int:=rwY R (pzR p i) (nPz i (pzR p i))
def trS (x:Lnt) (l:List Evt) (p:List Prz):Nat→Lst
 | 0=>x.new
 | i+1=>lN x (trS x l p i) (trIn l i) (trRw x.rs.length p i)
/-- The spikes behind some ticks. -/
def spk (t:Int) (o:List Int):List Evt:=o.map fun a=>⟨t,a⟩
def trO (x:Lnt) (l:List Evt) (p:List Prz):Nat→List Evt
 | 0=>[]
 | i+1=>trO x l p i++spk i (lOut x (trS x l p i))
theorem trS_tick (x:Lnt) (l:List Evt) (p:List Prz) : ∀ i,i≤10000→(trS x l p i).tick=(i:Int)
 | 0,_=>rfl
 | i+1,h=>by
  show W ((trS x l p i).tick+1)=_
  rw [trS_tick x l p i (by omega),W_id (by omega) (by omega)]; rfl
theorem trS_inv {x:Lnt} (hx:NetOK x) (l:List Evt) (p:List Prz) : ∀ i,i≤10000→LInv x (trS x l p i)
 | 0,_=>LInv.start hx
 | i+1,h=>(trS_inv hx l p i (by omega)).next hx (by rw [trS_tick x l p i (by omega)]; omega) _ _
theorem lOut_len (x:Lnt) (s:Lst):(lOut x s).length≤x.n.N.length:=nY_out ..
theorem trO_len (x:Lnt) (l:List Evt) (p:List Prz) : ∀ i,(trO x l p i).length≤i*x.n.N.length
 | 0=>by simp [trO]
 | i+1=>by
  have h1:=trO_len x l p i
  have h2:=lOut_len x (trS x l p i)
  simp only [trO,spk,List.length_append,List.length_map]
  rw [Nat.add_mul]; omega
theorem spk_take {t:Int} {o:List Int} {j:Nat} (h:j<o.length):spk t (o.take (j+1))=spk t (o.take j)++[⟨t,o[j]⟩]:=by
 unfold spk
 rw [← List.take_append_getElem h,List.map_append]; rfl
theorem evts_v (l:List Evt):l.flatMap Evt.cells=(l.flatMap Evt.vals).map .v:=by
 induction l with
 | nil=>rfl
 | cons a l ih=>rw [List.flatMap_cons,List.flatMap_cons,List.map_append,ih]; rfl
theorem scs_evts (S:Nat→Prop) (l:List Evt):SV.scs S (l.flatMap Evt.cells):=by rw [evts_v]; exact scs_v _ _
end Go.Proofs.Ytnnlpdgnlccbjaa
namespace Go.Proofs.Ytnnlpdgnlccbjaa
open Go.Sx
set_option maxRecDepth 100000
set_option maxHeartbeats 8000000
theorem opF_loadRow1 {tab:Tab} {pf:PF} {T:Tm} {M:Mem} {n:Nat} {t:TypeId} {x:Operand} {ti:TI} {j off e m:Nat} {l:List Int} {te:TypeId} (i:Nat) (ht:Sx.look tab t=some ti) (hx:ev T x=some (.ptr j off)) (hM:M j=some (.row e m (l.map fun x=>ii x) te)) (hag:ti.sh.isAgg=false) (hoff:off=i) (hi:i<l.length) :
  opF tab pf T M n (.load t x)=some (.val none (ii l[i])):=by
 subst hoff
 exact opF_loadR1 off ht hx hM hag rfl (by simp [hi])
theorem joinL {G:Prop} {c:Cx} {R:Ending→World→Prop} {q:List Item} (T:List (Nat × SV)) (M:List (Nat × SObj)) (n:Nat) (h1:Run c ⟨T,M,n,[],q⟩ R→G) (h2:Run c ⟨T,M,n,[],q⟩ R):G:=h1 h2
/-- What Train looks at. -/
def trainM (x:Lnt) (l:List Evt) (p:List Prz):List (Nat × SObj):=newM x++[(4,.rwin 2 l.length (l.flatMap Evt.vals)),(5,.rwin 3 p.length (p.flatMap Prz.vals))]
theorem train_ok (x:Lnt) (l:List Evt) (p:List Prz) (K:Nat) (h:learnChk x.n x.rs x.pl=0) (hp:prepChk ⟨[prm1],x.n.inp,[]⟩ l (K:Int) 10000=0) (hz:pzsChk (x.rs.length:Int) p=0) (hK:K*x.n.N.length≤65536) :
  BSpec Try.prog 20 [.agg [.opq 0,ii x.n.inp,.opq 1],.opq 2,.opq 3,.opq 4,.opq 5,ii (K:Int)] (trainM x l p) 6 [] (.tup [.opq 6,.agg [.opq 7,ii x.n.inp,.opq 8],ii 0])
   [(6,.row 2 (trO x l p K).length ((trO x l p K).flatMap Evt.cells) 62),(7,.row 8 x.n.N.length ((x.n.N.flatMap Prm.vals).map .v) 60),(8,.row 4 x.n.S.length ((nowL x.n.S (trS x l p K).m).flatMap Syn.cells) 55)] 9:=by
 have hx:NetOK x:=netOK_of h
 have hx1:=hx.N2
 have hx2:=hx.S1
 have hx3:=hx.rl
 have hx4:x.pl.length=x.n.S.length:=hx.lpl
 have hpz:=pzs_rule hz ⟨by omega,by omega⟩
 have hll:l.length≤65536:=by
  unfold prepChk at hp
  split at hp
  ·rename_i h1; exact absurd hp h1
  split at hp
  ·cases hp
  unfold evsChk at hp
  split at hp
  ·cases hp
  ·omega
 have hpl:p.length≤65536:=by
  unfold pzsChk at hz
  split at hz
  ·cases hz
  ·omega
 have hK2:K≤10000:=by
  unfold prepChk at hp
  split at hp
  ·rename_i h1; exact absurd hp h1
  split at hp
  ·cases hp
  rename_i h2
  have:=wi_iff.1 (show wi (K:Int) 0 10000=true by simpa using h2)
  omega
 have hc : ∀ w L' rd,(∀ p,rd=some p→p∈L')→Cx.ok ⟨Try.prog,tab,[(2000,fun _ _=>none)],20,Try.f20,[],w,L',rd⟩:=fun w L' rd h=>⟨tab_ok,⟨trivial,trivial⟩,Try.func20,mixed,h⟩
 refine BSpec.start (tab:=tab) (pf:=[(2000,fun _ _=>none)]) (cuts:=[]) Try.func20 rfl ⟨⟨(show 0<6 by decide),trivial,(show 1<6 by decide),trivial⟩,(show 2<6 by decide),(show 3<6 by decide),(show 4<6 by decide),(show 5<6 by decide),trivial,trivial⟩ rfl fun w L0 plp hL hLB hcov=>Run.of_wpK (hc w L0 none (fun _ h=>by cases h)) 100 _ ?_
 conv=>whnf
 refine Run.callP (vs:=[.agg [.opq 0,ii x.n.inp,.opq 1],.opq 2,.opq 3]) (caps:=[]) (new_ok x h) (ent _ _ Try.func25 (by kernel_rfl) rfl) rfl rfl rfl rfl rfl rfl rfl (by decide) (by decide)
  ⟨⟨by omega,trivial,⟨_,rfl,Conv.refl _⟩,.inl rfl,fun _=>by simp⟩,⟨by omega,trivial,⟨_,rfl,Conv.refl _⟩,.inl rfl,fun _=>by simp⟩,⟨by omega,trivial,⟨_,rfl,Conv.refl _⟩,.inl rfl,fun _=>by simp⟩,⟨by omega,trivial,⟨_,rfl,Conv.refl _⟩,.inl rfl,fun _=>by simp⟩,trivial⟩ (fun i hi=>by cases hi) (.tup [.ptr 9 0,ii 0]) ((9,.cells [ii 0,.opq 10,ii x.n.inp,.opq 11,.opq 12,.mp 17,.mp 18,.mp 19,.mp 20,.mp 21,.mp 22,.mp 23,.mp 24,.mp 25,.mp 26,.mp 27,.mp 28,.mp 29,.mp 30,.mp 31,.mp 32,.opq 13,.opq 14,.opq 15,.mp 16] 96)::(10,.row 8 x.n.N.length ((x.n.N.flatMap Prm.vals).map .v) 60)::(11,.row 4 x.n.S.length ((x.n.S.flatMap Syn.vals).map .v) 55)::(12,.row 2 x.n.N.length ((List.replicate x.n.N.length ste0).flatMap Ste.cells) 139)::(13,.row 10 x.rs.length ((x.rs.flatMap Rul.vals).map .v) 36)::(14,.row 1 x.pl.length ((ints x.pl).map .v) 3)::(15,.row 4 x.pl.length (x.m0.flatMap Mrk.cells) 84)::(16,.kmap true true x.tot)::(17,.kmap false false [])::(18,.kmap false false [])::(19,.kmap false false [])::(20,.kmap false false [])::(21,.kmap false false [])::(22,.kmap false false [])::(23,.kmap false false [])::(24,.kmap false false [])::(25,.kmap false false [])::(26,.kmap false false [])::(27,.kmap false false [])::(28,.kmap false false [])::(29,.kmap false false [])::(30,.kmap false false [])::(31,.kmap false false [])::(32,.kmap false false [])::(8,.cells [.v (.slice none 0 0),ii 0,.v (.slice none 0 0)] 25)::(7,.cells [.opq 0,ii x.n.inp,.opq 1] 25)::(6,.pin plp)::(0,.rwin 8 x.n.N.length (x.n.N.flatMap Prm.vals))::(1,.rwin 4 x.n.S.length (x.n.S.flatMap Syn.vals))::(2,.rwin 10 x.rs.length (x.rs.flatMap Rul.vals))::(3,.rwin 1 x.pl.length (ints x.pl))::(4,.rwin 2 l.length (l.flatMap Evt.vals))::(5,.rwin 3 p.length (p.flatMap Prz.vals))::[]) 33 rfl rfl
  ⟨.inr ⟨4,_,rfl,rfl,rfl,rfl⟩,.inr ⟨5,_,rfl,rfl,by rw [oren_fix (S:=fun _=>False) (fun i hi=>hi.elim) (o := .row 8 x.n.N.length ((x.n.N.flatMap Prm.vals).map .v) 60) (scs_v _ _)],rfl⟩,.inr ⟨6,_,rfl,rfl,by rw [oren_fix (S:=fun _=>False) (fun i hi=>hi.elim) (o := .row 4 x.n.S.length ((x.n.S.flatMap Syn.vals).map .v) 55) (scs_v _ _)],rfl⟩,.inr ⟨7,_,rfl,rfl,by rw [oren_fix (S:=fun _=>False) (fun i hi=>hi.elim) (o := .row 2 x.n.N.length ((List.replicate x.n.N.length ste0).flatMap Ste.cells) 139) (scs_st _ _)],rfl⟩,.inr ⟨8,_,rfl,rfl,by rw [oren_fix (S:=fun _=>False) (fun i hi=>hi.elim) (o := .row 10 x.rs.length ((x.rs.flatMap Rul.vals).map .v) 36) (scs_v _ _)],rfl⟩,.inr ⟨9,_,rfl,rfl,by rw [oren_fix (S:=fun _=>False) (fun i hi=>hi.elim) (o := .row 1 x.pl.length ((ints x.pl).map .v) 3) (scs_v _ _)],rfl⟩,.inr ⟨10,_,rfl,rfl,by rw [oren_fix (S:=fun _=>False) (fun i hi=>hi.elim) (o := .row 4 x.n.S.length (x.m0.flatMap Mrk.cells) 84) (scs_marks _ _),← hx4],rfl⟩,.inr ⟨11,_,rfl,rfl,rfl,rfl⟩,.inr ⟨12,_,rfl,rfl,rfl,rfl⟩,.inr ⟨13,_,rfl,rfl,rfl,rfl⟩,.inr ⟨14,_,rfl,rfl,rfl,rfl⟩,.inr ⟨15,_,rfl,rfl,rfl,rfl⟩,.inr ⟨16,_,rfl,rfl,rfl,rfl⟩,.inr ⟨17,_,rfl,rfl,rfl,rfl⟩,.inr ⟨18,_,rfl,rfl,rfl,rfl⟩,.inr ⟨19,_,rfl,rfl,rfl,rfl⟩,.inr ⟨20,_,rfl,rfl,rfl,rfl⟩,.inr ⟨21,_,rfl,rfl,rfl,rfl⟩,.inr ⟨22,_,rfl,rfl,rfl,rfl⟩,.inr ⟨23,_,rfl,rfl,rfl,rfl⟩,.inr ⟨24,_,rfl,rfl,rfl,rfl⟩,.inr ⟨25,_,rfl,rfl,rfl,rfl⟩,.inr ⟨26,_,rfl,rfl,rfl,rfl⟩,.inr ⟨27,_,rfl,rfl,rfl,rfl⟩,.inl ⟨rfl,by simp⟩,.inl ⟨rfl,by simp⟩,.inl ⟨rfl,by simp⟩,.inl ⟨rfl,by simp⟩,.inl ⟨rfl,by simp⟩,.inl ⟨rfl,by simp⟩,.inl ⟨rfl,by simp⟩,.inl ⟨rfl,by simp⟩,.inl ⟨rfl,by simp⟩,trivial⟩ ?_
 refine Run.of_wpK (hc w L0 none (fun _ h=>by cases h)) 1000 _ ?_
 conv=>whnf
 have h0S : ∀ w',RowsAt w' (.slice none 0 0) 4 0 []:=fun w'=>⟨rfl,none,0,rfl,Nat.le_refl _,.inl rfl⟩
 refine Run.callE (g:=24) (vs:=[.agg [.slc 33 0 1 1,ii x.n.inp,.v (.slice none 0 0)],.opq 4,ii (K:Int)]) (caps:=[]) (.tup [.v (.slice none 0 0),ii 0]) (fun ρ w1 hW=>by
  have:=nrun_run ((SV.slc 33 0 1 1).conc ρ) x.n.inp ((SV.opq 4).conc ρ) l (K:Int) w1 (hW.rowsAtS (i:=33) rfl rfl (by decide)) (hW.rowsAt rfl)
  rw [hp] at this
  exact this) (ent _ _ Try.func24 (by kernel_rfl) rfl) rfl rfl rfl rfl rfl rfl rfl ⟨trivial,trivial,trivial⟩ ?_
 refine Run.of_wpK (hc w L0 none (fun _ h=>by cases h)) 1000 _ ?_
 conv=>whnf
 refine Run.callE (g:=51) (vs:=[ii (x.rs.length:Int),.opq 5]) (caps:=[]) (ii 0) (fun ρ w1 hW=>by
  have:=lordered_run (x.rs.length:Int) ((SV.opq 5).conc ρ) p w1 (hW.rowsAt rfl)
  rw [hz] at this
  exact this) (ent _ _ Try.func51 (by kernel_rfl) rfl) rfl rfl rfl rfl rfl rfl rfl trivial ?_
 refine Run.of_wpK (hc w L0 none (fun _ h=>by cases h)) 1000 _ ?_
 conv=>whnf
 refine Run.nils (T':=[(1,.opq 2),(3,.opq 4),(4,.opq 5),(13,.ptr 8 0),(15,.ptr 9 0),(20,.opq 34),(60,ii (K:Int)),(61,ii 0)]) (M':=((34,.row 2 0 [] 62)::(9,.cells [ii 0,.opq 10,ii x.n.inp,.opq 11,.opq 12,.mp 17,.mp 18,.mp 19,.mp 20,.mp 21,.mp 22,.mp 23,.mp 24,.mp 25,.mp 26,.mp 27,.mp 28,.mp 29,.mp 30,.mp 31,.mp 32,.opq 13,.opq 14,.opq 15,.mp 16] 96)::(10,.row 8 x.n.N.length ((x.n.N.flatMap Prm.vals).map .v) 60)::(11,.row 4 x.n.S.length ((x.n.S.flatMap Syn.vals).map .v) 55)::(12,.row 2 x.n.N.length ((List.replicate x.n.N.length ste0).flatMap Ste.cells) 139)::(13,.row 10 x.rs.length ((x.rs.flatMap Rul.vals).map .v) 36)::(14,.row 1 x.pl.length ((ints x.pl).map .v) 3)::(15,.row 4 x.pl.length (x.m0.flatMap Mrk.cells) 84)::(16,.kmap true true x.tot)::(17,.kmap false false [])::(18,.kmap false false [])::(19,.kmap false false [])::(20,.kmap false false [])::(21,.kmap false false [])::(22,.kmap false false [])::(23,.kmap false false [])::(24,.kmap false false [])::(25,.kmap false false [])::(26,.kmap false false [])::(27,.kmap false false [])::(28,.kmap false false [])::(29,.kmap false false [])::(30,.kmap false false [])::(31,.kmap false false [])::(32,.kmap false false [])::(8,.cells [.v (.slice none 0 0),ii 0,.v (.slice none 0 0)] 25)::(7,.cells [.opq 0,ii x.n.inp,.opq 1] 25)::(6,.pin plp)::(0,.rwin 8 x.n.N.length (x.n.N.flatMap Prm.vals))::(1,.rwin 4 x.n.S.length (x.n.S.flatMap Syn.vals))::(2,.rwin 10 x.rs.length (x.rs.flatMap Rul.vals))::(3,.rwin 1 x.pl.length (ints x.pl))::(4,.rwin 2 l.length (l.flatMap Evt.vals))::(5,.rwin 3 p.length (p.flatMap Prz.vals))::[])) 1 (fun _ => .row 2 0 [] 62) (fun _ _ => .inl ⟨_,_,rfl⟩) ⟨⟨_,rfl,.inl rfl⟩,⟨_,rfl,.inl rfl⟩,⟨_,rfl,.inl rfl⟩,⟨_,rfl,.inl rfl⟩,⟨_,rfl,.inl rfl⟩,⟨_,rfl,.inr (.inl ⟨rfl,0,by decide,rfl⟩)⟩,⟨_,rfl,.inl rfl⟩,⟨_,rfl,.inl rfl⟩,trivial⟩ ⟨.inl ⟨0,by decide,rfl⟩,.inr ⟨_,rfl,.inl rfl⟩,.inr ⟨_,rfl,.inl rfl⟩,.inr ⟨_,rfl,.inl rfl⟩,.inr ⟨_,rfl,.inl rfl⟩,.inr ⟨_,rfl,.inl rfl⟩,.inr ⟨_,rfl,.inl rfl⟩,.inr ⟨_,rfl,.inl rfl⟩,.inr ⟨_,rfl,.inl rfl⟩,.inr ⟨_,rfl,.inl rfl⟩,.inr ⟨_,rfl,.inl rfl⟩,.inr ⟨_,rfl,.inl rfl⟩,.inr ⟨_,rfl,.inl rfl⟩,.inr ⟨_,rfl,.inl rfl⟩,.inr ⟨_,rfl,.inl rfl⟩,.inr ⟨_,rfl,.inl rfl⟩,.inr ⟨_,rfl,.inl rfl⟩,.inr ⟨_,rfl,.inl rfl⟩,.inr ⟨_,rfl,.inl rfl⟩,.inr ⟨_,rfl,.inl rfl⟩,.inr ⟨_,rfl,.inl rfl⟩,.inr ⟨_,rfl,.inl rfl⟩,.inr ⟨_,rfl,.inl rfl⟩,.inr ⟨_,rfl,.inl rfl⟩,.inr ⟨_,rfl,.inl rfl⟩,.inr ⟨_,rfl,.inl rfl⟩,.inr ⟨_,rfl,.inl rfl⟩,.inr ⟨_,rfl,.inl rfl⟩,.inr ⟨_,rfl,.inl rfl⟩,.inr ⟨_,rfl,.inl rfl⟩,.inr ⟨_,rfl,.inl rfl⟩,.inr ⟨_,rfl,.inl rfl⟩,.inr ⟨_,rfl,.inl rfl⟩,.inr ⟨_,rfl,.inl rfl⟩,trivial⟩ ?_
 have hne45 : ∀ x_1∈(((34,.row 2 (trO x l p 0).length ((trO x l p 0).flatMap Evt.cells) 62)::(35,.rwin 2 (evR l 0).length ((evR l 0).flatMap Evt.vals))::(36,.rwin 3 (pzR p 0).length ((pzR p 0).flatMap Prz.vals))::(9,.cells [ii ((0:Nat):Int),.opq 10,ii x.n.inp,.opq 11,.opq 12,.mp 17,.mp 18,.mp 19,.mp 20,.mp 21,.mp 22,.mp 23,.mp 24,.mp 25,.mp 26,.mp 27,.mp 28,.mp 29,.mp 30,.mp 31,.mp 32,.opq 13,.opq 14,.opq 15,.mp 16] 96)::(10,.row 8 x.n.N.length ((x.n.N.flatMap Prm.vals).map .v) 60)::(11,.row 4 x.n.S.length ((x.n.S.flatMap Syn.vals).map .v) 55)::(12,.row 2 x.n.N.length ((trS x l p 0).st.flatMap Ste.cells) 139)::(13,.row 10 x.rs.length ((x.rs.flatMap Rul.vals).map .v) 36)::(14,.row 1 x.pl.length ((ints x.pl).map .v) 3)::(15,.row 4 x.pl.length ((trS x l p 0).m.flatMap Mrk.cells) 84)::(16,.kmap true true x.tot)::(17,.kmap false false (sentE ((trS x l p 0).sm 0)))::(18,.kmap false false (sentE ((trS x l p 0).sm 1)))::(19,.kmap false false (sentE ((trS x l p 0).sm 2)))::(20,.kmap false false (sentE ((trS x l p 0).sm 3)))::(21,.kmap false false (sentE ((trS x l p 0).sm 4)))::(22,.kmap false false (sentE ((trS x l p 0).sm 5)))::(23,.kmap false false (sentE ((trS x l p 0).sm 6)))::(24,.kmap false false (sentE ((trS x l p 0).sm 7)))::(25,.kmap false false (sentE ((trS x l p 0).sm 8)))::(26,.kmap false false (sentE ((trS x l p 0).sm 9)))::(27,.kmap false false (sentE ((trS x l p 0).sm 10)))::(28,.kmap false false (sentE ((trS x l p 0).sm 11)))::(29,.kmap false false (sentE ((trS x l p 0).sm 12)))::(30,.kmap false false (sentE ((trS x l p 0).sm 13)))::(31,.kmap false false (sentE ((trS x l p 0).sm 14)))::(32,.kmap false false (sentE ((trS x l p 0).sm 15)))::(8,.cells [.v (.slice none 0 0),ii 0,.v (.slice none 0 0)] 25)::(6,.pin plp)::(2,.rwin 10 x.rs.length (x.rs.flatMap Rul.vals))::[]):List (Nat × SObj)),x_1.1≠4∧x_1.1≠5:=AllP.mem ⟨(show 34≠4∧34≠5 by decide),(show 35≠4∧35≠5 by decide),(show 36≠4∧36≠5 by decide),(show 9≠4∧9≠5 by decide),(show 10≠4∧10≠5 by decide),(show 11≠4∧11≠5 by decide),(show 12≠4∧12≠5 by decide),(show 13≠4∧13≠5 by decide),(show 14≠4∧14≠5 by decide),(show 15≠4∧15≠5 by decide),(show 16≠4∧16≠5 by decide),(show 17≠4∧17≠5 by decide),(show 18≠4∧18≠5 by decide),(show 19≠4∧19≠5 by decide),(show 20≠4∧20≠5 by decide),(show 21≠4∧21≠5 by decide),(show 22≠4∧22≠5 by decide),(show 23≠4∧23≠5 by decide),(show 24≠4∧24≠5 by decide),(show 25≠4∧25≠5 by decide),(show 26≠4∧26≠5 by decide),(show 27≠4∧27≠5 by decide),(show 28≠4∧28≠5 by decide),(show 29≠4∧29≠5 by decide),(show 30≠4∧30≠5 by decide),(show 31≠4∧31≠5 by decide),(show 32≠4∧32≠5 by decide),(show 8≠4∧8≠5 by decide),(show 6≠4∧6≠5 by decide),(show 2≠4∧2≠5 by decide),trivial⟩
 have hrqe : ∀ i,rq [(35,4),(36,5)] i=if i=35 then 4 else if i=36 then 5 else i:=fun i=>by
  unfold rq
  rw [look_cons]
  by_cases e:i=35
  ·rw [if_pos e.symm,if_pos e]
  ·rw [if_neg (Ne.symm e),if_neg e,look_cons]
   by_cases e:i=36
   ·rw [if_pos e.symm,if_pos e]
   ·rw [if_neg (Ne.symm e),if_neg e]; rfl
 refine Run.less (s':=⟨[(1,.opq 2),(3,.opq 35),(4,.opq 36),(13,.ptr 8 0),(15,.ptr 9 0),(20,.opq 34),(60,ii (K:Int)),(61,ii ((0:Nat):Int))],((34,.row 2 (trO x l p 0).length ((trO x l p 0).flatMap Evt.cells) 62)::(35,.rwin 2 (evR l 0).length ((evR l 0).flatMap Evt.vals))::(36,.rwin 3 (pzR p 0).length ((pzR p 0).flatMap Prz.vals))::(9,.cells [ii ((0:Nat):Int),.opq 10,ii x.n.inp,.opq 11,.opq 12,.mp 17,.mp 18,.mp 19,.mp 20,.mp 21,.mp 22,.mp 23,.mp 24,.mp 25,.mp 26,.mp 27,.mp 28,.mp 29,.mp 30,.mp 31,.mp 32,.opq 13,.opq 14,.opq 15,.mp 16] 96)::(10,.row 8 x.n.N.length ((x.n.N.flatMap Prm.vals).map .v) 60)::(11,.row 4 x.n.S.length ((x.n.S.flatMap Syn.vals).map .v) 55)::(12,.row 2 x.n.N.length ((trS x l p 0).st.flatMap Ste.cells) 139)::(13,.row 10 x.rs.length ((x.rs.flatMap Rul.vals).map .v) 36)::(14,.row 1 x.pl.length ((ints x.pl).map .v) 3)::(15,.row 4 x.pl.length ((trS x l p 0).m.flatMap Mrk.cells) 84)::(16,.kmap true true x.tot)::(17,.kmap false false (sentE ((trS x l p 0).sm 0)))::(18,.kmap false false (sentE ((trS x l p 0).sm 1)))::(19,.kmap false false (sentE ((trS x l p 0).sm 2)))::(20,.kmap false false (sentE ((trS x l p 0).sm 3)))::(21,.kmap false false (sentE ((trS x l p 0).sm 4)))::(22,.kmap false false (sentE ((trS x l p 0).sm 5)))::(23,.kmap false false (sentE ((trS x l p 0).sm 6)))::(24,.kmap false false (sentE ((trS x l p 0).sm 7)))::(25,.kmap false false (sentE ((trS x l p 0).sm 8)))::(26,.kmap false false (sentE ((trS x l p 0).sm 9)))::(27,.kmap false false (sentE ((trS x l p 0).sm 10)))::(28,.kmap false false (sentE ((trS x l p 0).sm 11)))::(29,.kmap false false (sentE ((trS x l p 0).sm 12)))::(30,.kmap false false (sentE ((trS x l p 0).sm 13)))::(31,.kmap false false (sentE ((trS x l p 0).sm 14)))::(32,.kmap false false (sentE ((trS x l p 0).sm 15)))::(8,.cells [.v (.slice none 0 0),ii 0,.v (.slice none 0 0)] 25)::(6,.pin plp)::(2,.rwin 10 x.rs.length (x.rs.flatMap Rul.vals))::[]),37,[],_⟩) (rq [(35,4),(36,5)]) ⟨AllP.mem ⟨⟨rfl,(show 2<37 by decide)⟩,⟨rfl,(show 35<37 by decide)⟩,⟨rfl,(show 36<37 by decide)⟩,⟨rfl,(show 8<37 by decide)⟩,⟨rfl,(show 9<37 by decide)⟩,⟨rfl,(show 34<37 by decide)⟩,⟨rfl,trivial⟩,⟨rfl,trivial⟩,trivial⟩,AllP.mem ⟨⟨congrArg some (oren_fix (S:=fun _=>False) (fun i hi=>hi.elim) (o := .row 2 (trO x l p 0).length ((trO x l p 0).flatMap Evt.cells) 62) (scs_evts _ _)).symm,(show 34<37 by decide),scs_evts _ _⟩,⟨rfl,(show 35<37 by decide),trivial⟩,⟨rfl,(show 36<37 by decide),trivial⟩,⟨rfl,(show 9<37 by decide),by simp [SObj.sc,SV.scs,SV.sc]⟩,⟨congrArg some (oren_fix (S:=fun _=>False) (fun i hi=>hi.elim) (o := .row 8 x.n.N.length ((x.n.N.flatMap Prm.vals).map .v) 60) (scs_v _ _)).symm,(show 10<37 by decide),scs_v _ _⟩,⟨congrArg some (oren_fix (S:=fun _=>False) (fun i hi=>hi.elim) (o := .row 4 x.n.S.length ((x.n.S.flatMap Syn.vals).map .v) 55) (scs_v _ _)).symm,(show 11<37 by decide),scs_v _ _⟩,⟨by rw [oren_fix (S:=fun _=>False) (fun i hi=>hi.elim) (o := .row 2 x.n.N.length ((trS x l p 0).st.flatMap Ste.cells) 139) (scs_st _ _)]; rfl,(show 12<37 by decide),scs_st _ _⟩,⟨congrArg some (oren_fix (S:=fun _=>False) (fun i hi=>hi.elim) (o := .row 10 x.rs.length ((x.rs.flatMap Rul.vals).map .v) 36) (scs_v _ _)).symm,(show 13<37 by decide),scs_v _ _⟩,⟨congrArg some (oren_fix (S:=fun _=>False) (fun i hi=>hi.elim) (o := .row 1 x.pl.length ((ints x.pl).map .v) 3) (scs_v _ _)).symm,(show 14<37 by decide),scs_v _ _⟩,⟨congrArg some (oren_fix (S:=fun _=>False) (fun i hi=>hi.elim) (o := .row 4 x.pl.length ((trS x l p 0).m.flatMap Mrk.cells) 84) (scs_marks _ _)).symm,(show 15<37 by decide),scs_marks _ _⟩,⟨rfl,(show 16<37 by decide),trivial⟩,⟨rfl,(show 17<37 by decide),trivial⟩,⟨rfl,(show 18<37 by decide),trivial⟩,⟨rfl,(show 19<37 by decide),trivial⟩,⟨rfl,(show 20<37 by decide),trivial⟩,⟨rfl,(show 21<37 by decide),trivial⟩,⟨rfl,(show 22<37 by decide),trivial⟩,⟨rfl,(show 23<37 by decide),trivial⟩,⟨rfl,(show 24<37 by decide),trivial⟩,⟨rfl,(show 25<37 by decide),trivial⟩,⟨rfl,(show 26<37 by decide),trivial⟩,⟨rfl,(show 27<37 by decide),trivial⟩,⟨rfl,(show 28<37 by decide),trivial⟩,⟨rfl,(show 29<37 by decide),trivial⟩,⟨rfl,(show 30<37 by decide),trivial⟩,⟨rfl,(show 31<37 by decide),trivial⟩,⟨rfl,(show 32<37 by decide),trivial⟩,⟨rfl,(show 8<37 by decide),by simp [SObj.sc,SV.scs,SV.sc]⟩,⟨congrArg some (pin_fix hcov (fun i hi=>rq_fix (rq_noneB (B:=6) rfl hi))).symm,(show 6<37 by decide),fun p hp=>Nat.lt_of_lt_of_le (hcov.1 p hp) (show 6≤37 by decide)⟩,⟨rfl,(show 2<37 by decide),trivial⟩,trivial⟩,(fun x hx y hy h => ?_),(fun p hp=>by have:=hLB p hp; exact ⟨rq_fix (rq_noneB (B:=6) rfl this),(show p.1<37 by omega)⟩),rfl,rfl⟩ ?_
 ·have h1:=hne45 x hx
  have h2:=hne45 y hy
  rw [hrqe,hrqe]
  split <;> split <;> (try split) <;> (try split) <;> omega
 refine Run.upToJ (T:=fun i=>[(1,.opq 2),(3,.opq 35),(4,.opq 36),(13,.ptr 8 0),(15,.ptr 9 0),(20,.opq 34),(60,ii (K:Int)),(61,ii ((i:Nat):Int))]) (M:=fun i=>((34,.row 2 (trO x l p i).length ((trO x l p i).flatMap Evt.cells) 62)::(35,.rwin 2 (evR l i).length ((evR l i).flatMap Evt.vals))::(36,.rwin 3 (pzR p i).length ((pzR p i).flatMap Prz.vals))::(9,.cells [ii ((i:Nat):Int),.opq 10,ii x.n.inp,.opq 11,.opq 12,.mp 17,.mp 18,.mp 19,.mp 20,.mp 21,.mp 22,.mp 23,.mp 24,.mp 25,.mp 26,.mp 27,.mp 28,.mp 29,.mp 30,.mp 31,.mp 32,.opq 13,.opq 14,.opq 15,.mp 16] 96)::(10,.row 8 x.n.N.length ((x.n.N.flatMap Prm.vals).map .v) 60)::(11,.row 4 x.n.S.length ((x.n.S.flatMap Syn.vals).map .v) 55)::(12,.row 2 x.n.N.length ((trS x l p i).st.flatMap Ste.cells) 139)::(13,.row 10 x.rs.length ((x.rs.flatMap Rul.vals).map .v) 36)::(14,.row 1 x.pl.length ((ints x.pl).map .v) 3)::(15,.row 4 x.pl.length ((trS x l p i).m.flatMap Mrk.cells) 84)::(16,.kmap true true x.tot)::(17,.kmap false false (sentE ((trS x l p i).sm 0)))::(18,.kmap false false (sentE ((trS x l p i).sm 1)))::(19,.kmap false false (sentE ((trS x l p i).sm 2)))::(20,.kmap false false (sentE ((trS x l p i).sm 3)))::(21,.kmap false false (sentE ((trS x l p i).sm 4)))::(22,.kmap false false (sentE ((trS x l p i).sm 5)))::(23,.kmap false false (sentE ((trS x l p i).sm 6)))::(24,.kmap false false (sentE ((trS x l p i).sm 7)))::(25,.kmap false false (sentE ((trS x l p i).sm 8)))::(26,.kmap false false (sentE ((trS x l p i).sm 9)))::(27,.kmap false false (sentE ((trS x l p i).sm 10)))::(28,.kmap false false (sentE ((trS x l p i).sm 11)))::(29,.kmap false false (sentE ((trS x l p i).sm 12)))::(30,.kmap false false (sentE ((trS x l p i).sm 13)))::(31,.kmap false false (sentE ((trS x l p i).sm 14)))::(32,.kmap false false (sentE ((trS x l p i).sm 15)))::(8,.cells [.v (.slice none 0 0),ii 0,.v (.slice none 0 0)] 25)::(6,.pin plp)::(2,.rwin 10 x.rs.length (x.rs.flatMap Rul.vals))::[])) (fun _=>True) K trivial ?_ ?_
 ·intro i hi hJ ih
  refine Run.of_wpK (hc w L0 none (fun _ h=>by cases h)) 1000 _ ?_
  conv=>whnf
  obtain ⟨X,hX⟩ : ∃ X,evR l i=X:=⟨_,rfl⟩
  obtain ⟨Y,hY⟩ : ∃ Y,pzR p i=Y:=⟨_,rfl⟩
  obtain ⟨O,hO⟩ : ∃ O,trO x l p i=O:=⟨_,rfl⟩
  obtain ⟨s,hs⟩ : ∃ s,trS x l p i=s:=⟨_,rfl⟩
  have hXl:X.length≤65536:=by rw [← hX]; exact Nat.le_trans (evR_len l i) hll
  have hYl:Y.length≤65536:=by rw [← hY]; exact Nat.le_trans (pzR_len p i) hpl
  have hYr : ∀ z∈Y,0≤z.id∧z.id<(x.rs.length:Int) ∧ -128≤z.val∧z.val≤127:=fun z hz=>hpz z (pzR_mem p i z (by rw [hY]; exact hz))
  have hst:s.tick=(i:Int):=by rw [← hs]; exact trS_tick x l p i (by omega)
  have hinv:LInv x s:=by rw [← hs]; exact trS_inv hx l p i (by omega)
  have hnl:=nAt_le ((i:Nat):Int) X
  have hnp:=nPz_le ((i:Nat):Int) Y
  rw [hX,hY,hO,hs]
  rw [decide_eq_true (show ((i:Nat):Int)<(K:Int) by omega)]
  conv=>whnf
  refine Run.nils (T':=[(1,.opq 2),(3,.opq 35),(4,.opq 36),(13,.ptr 8 0),(15,.ptr 9 0),(20,.opq 34),(60,ii (K:Int)),(61,ii ((i:Nat):Int)),(21,ii ((i:Nat):Int)),(22,.opq 37)]) (M':=((37,.row 1 (idsT X 0).length ((idsT X 0).map fun x=>ii x) 3)::(34,.row 2 O.length (O.flatMap Evt.cells) 62)::(35,.rwin 2 (X.drop 0).length ((X.drop 0).flatMap Evt.vals))::(36,.rwin 3 Y.length (Y.flatMap Prz.vals))::(9,.cells [ii ((i:Nat):Int),.opq 10,ii x.n.inp,.opq 11,.opq 12,.mp 17,.mp 18,.mp 19,.mp 20,.mp 21,.mp 22,.mp 23,.mp 24,.mp 25,.mp 26,.mp 27,.mp 28,.mp 29,.mp 30,.mp 31,.mp 32,.opq 13,.opq 14,.opq 15,.mp 16] 96)::(10,.row 8 x.n.N.length ((x.n.N.flatMap Prm.vals).map .v) 60)::(11,.row 4 x.n.S.length ((x.n.S.flatMap Syn.vals).map .v) 55)::(12,.row 2 x.n.N.length (s.st.flatMap Ste.cells) 139)::(13,.row 10 x.rs.length ((x.rs.flatMap Rul.vals).map .v) 36)::(14,.row 1 x.pl.length ((ints x.pl).map .v) 3)::(15,.row 4 x.pl.length (s.m.flatMap Mrk.cells) 84)::(16,.kmap true true x.tot)::(17,.kmap false false (sentE (s.sm 0)))::(18,.kmap false false (sentE (s.sm 1)))::(19,.kmap false false (sentE (s.sm 2)))::(20,.kmap false false (sentE (s.sm 3)))::(21,.kmap false false (sentE (s.sm 4)))::(22,.kmap false false (sentE (s.sm 5)))::(23,.kmap false false (sentE (s.sm 6)))::(24,.kmap false false (sentE (s.sm 7)))::(25,.kmap false false (sentE (s.sm 8)))::(26,.kmap false false (sentE (s.sm 9)))::(27,.kmap false false (sentE (s.sm 10)))::(28,.kmap false false (sentE (s.sm 11)))::(29,.kmap false false (sentE (s.sm 12)))::(30,.kmap false false (sentE (s.sm 13)))::(31,.kmap false false (sentE (s.sm 14)))::(32,.kmap false false (sentE (s.sm 15)))::(8,.cells [.v (.slice none 0 0),ii 0,.v (.slice none 0 0)] 25)::(6,.pin plp)::(2,.rwin 10 x.rs.length (x.rs.flatMap Rul.vals))::[])) 1 (fun _ => .row 1 0 [] 3) (fun _ _ => .inl ⟨_,_,rfl⟩) ⟨⟨_,rfl,.inl rfl⟩,⟨_,rfl,.inl rfl⟩,⟨_,rfl,.inl rfl⟩,⟨_,rfl,.inl rfl⟩,⟨_,rfl,.inl rfl⟩,⟨_,rfl,.inl rfl⟩,⟨_,rfl,.inl rfl⟩,⟨_,rfl,.inl rfl⟩,⟨_,rfl,.inl rfl⟩,⟨_,rfl,.inr (.inl ⟨rfl,0,by decide,rfl⟩)⟩,trivial⟩ ⟨.inl ⟨0,by decide,rfl⟩,.inr ⟨_,rfl,.inl rfl⟩,.inr ⟨_,rfl,.inl rfl⟩,.inr ⟨_,rfl,.inl rfl⟩,.inr ⟨_,rfl,.inl rfl⟩,.inr ⟨_,rfl,.inl rfl⟩,.inr ⟨_,rfl,.inl rfl⟩,.inr ⟨_,rfl,.inl rfl⟩,.inr ⟨_,rfl,.inl rfl⟩,.inr ⟨_,rfl,.inl rfl⟩,.inr ⟨_,rfl,.inl rfl⟩,.inr ⟨_,rfl,.inl rfl⟩,.inr ⟨_,rfl,.inl rfl⟩,.inr ⟨_,rfl,.inl rfl⟩,.inr ⟨_,rfl,.inl rfl⟩,.inr ⟨_,rfl,.inl rfl⟩,.inr ⟨_,rfl,.inl rfl⟩,.inr ⟨_,rfl,.inl rfl⟩,.inr ⟨_,rfl,.inl rfl⟩,.inr ⟨_,rfl,.inl rfl⟩,.inr ⟨_,rfl,.inl rfl⟩,.inr ⟨_,rfl,.inl rfl⟩,.inr ⟨_,rfl,.inl rfl⟩,.inr ⟨_,rfl,.inl rfl⟩,.inr ⟨_,rfl,.inl rfl⟩,.inr ⟨_,rfl,.inl rfl⟩,.inr ⟨_,rfl,.inl rfl⟩,.inr ⟨_,rfl,.inl rfl⟩,.inr ⟨_,rfl,.inl rfl⟩,.inr ⟨_,rfl,.inl rfl⟩,.inr ⟨_,rfl,.inl rfl⟩,trivial⟩ ?_
  refine Run.upToJ (T:=fun _=>[(1,.opq 2),(3,.opq 35),(4,.opq 36),(13,.ptr 8 0),(15,.ptr 9 0),(20,.opq 34),(60,ii (K:Int)),(61,ii ((i:Nat):Int)),(21,ii ((i:Nat):Int)),(22,.opq 37)]) (M:=fun j=>((37,.row 1 (idsT X j).length ((idsT X j).map fun x=>ii x) 3)::(34,.row 2 O.length (O.flatMap Evt.cells) 62)::(35,.rwin 2 (X.drop j).length ((X.drop j).flatMap Evt.vals))::(36,.rwin 3 Y.length (Y.flatMap Prz.vals))::(9,.cells [ii ((i:Nat):Int),.opq 10,ii x.n.inp,.opq 11,.opq 12,.mp 17,.mp 18,.mp 19,.mp 20,.mp 21,.mp 22,.mp 23,.mp 24,.mp 25,.mp 26,.mp 27,.mp 28,.mp 29,.mp 30,.mp 31,.mp 32,.opq 13,.opq 14,.opq 15,.mp 16] 96)::(10,.row 8 x.n.N.length ((x.n.N.flatMap Prm.vals).map .v) 60)::(11,.row 4 x.n.S.length ((x.n.S.flatMap Syn.vals).map .v) 55)::(12,.row 2 x.n.N.length (s.st.flatMap Ste.cells) 139)::(13,.row 10 x.rs.length ((x.rs.flatMap Rul.vals).map .v) 36)::(14,.row 1 x.pl.length ((ints x.pl).map .v) 3)::(15,.row 4 x.pl.length (s.m.flatMap Mrk.cells) 84)::(16,.kmap true true x.tot)::(17,.kmap false false (sentE (s.sm 0)))::(18,.kmap false false (sentE (s.sm 1)))::(19,.kmap false false (sentE (s.sm 2)))::(20,.kmap false false (sentE (s.sm 3)))::(21,.kmap false false (sentE (s.sm 4)))::(22,.kmap false false (sentE (s.sm 5)))::(23,.kmap false false (sentE (s.sm 6)))::(24,.kmap false false (sentE (s.sm 7)))::(25,.kmap false false (sentE (s.sm 8)))::(26,.kmap false false (sentE (s.sm 9)))::(27,.kmap false false (sentE (s.sm 10)))::(28,.kmap false false (sentE (s.sm 11)))::(29,.kmap false false (sentE (s.sm 12)))::(30,.kmap false false (sentE (s.sm 13)))::(31,.kmap false false (sentE (s.sm 14)))::(32,.kmap false false (sentE (s.sm 15)))::(8,.cells [.v (.slice none 0 0),ii 0,.v (.slice none 0 0)] 25)::(6,.pin plp)::(2,.rwin 10 x.rs.length (x.rs.flatMap Rul.vals))::[])) (fun _=>True) (nAt ((i:Nat):Int) X) trivial ?_ ?_
  ·intro j hj _ ih2
   obtain ⟨hj1,hj2⟩:=nAt_lt hj
   have h0:0<(X.drop j).length:=by rw [List.length_drop]; omega
   have e0:(X.drop j)[0]=X[j]:=by simp
   have hil:=idsT_len (show j≤X.length by omega)
   refine Run.of_wpK (hc w L0 none (fun _ h=>by cases h)) 1000 _ ?_
   conv=>whnf
   rw [decide_eq_true (show (0:Int)<((X.drop j).length:Int) by omega)]
   conv=>whnf
   refine ⟨by omega,?_⟩
   conv=>whnf
   rw [opF_loadWf (f:=Evt.vals) (l:=X.drop j) (c := .int .i64 (X.drop j)[0].tick) 0 0 rfl rfl rfl rfl Evt.vlen rfl h0 (by decide) rfl]
   conv=>whnf
   rw [e0,hj2,show (((i:Nat):Int)==((i:Nat):Int))=true by simp]
   conv=>whnf
   refine Run.draw (hc w L0 none (fun _ h=>by cases h)) 11 ?_
   rw [show upto 0 11=upto 0 3++(upto 3 2++(upto 5 2++(upto 7 2++upto 9 2))) from rfl]
   simp only [drawK_app]
   conv=>whnf
   refine ⟨by omega,?_⟩
   conv=>whnf
   rw [opF_loadWf (f:=Evt.vals) (l:=X.drop j) (c := .int .i64 (X.drop j)[0].id) 0 1 rfl rfl rfl rfl Evt.vlen rfl h0 (by decide) rfl]
   conv=>whnf
   rw [e0]
   conv=>whnf
   refine ⟨by omega,?_⟩
   conv=>whnf
   rw [opF_sliceW 1 rfl rfl rfl rfl rfl rfl (by omega),drop_flat Evt.vlen,List.drop_drop,show (X.drop j).length-1=(X.drop (j+1)).length by simp; omega]
   conv=>whnf
   refine ⟨by kernel_rfl,?_⟩
   refine Run.of_wpK (hc w L0 none (fun _ h=>by cases h)) 1000 _ ?_
   conv=>whnf
   refine Run.trimQ (T':=[(1,.opq 2),(3,.opq 35),(4,.opq 36),(13,.ptr 8 0),(15,.ptr 9 0),(20,.opq 34),(60,ii (K:Int)),(61,ii ((i:Nat):Int)),(21,ii ((i:Nat):Int)),(22,.opq 37)]) (M':=((37,.row 1 (idsT X (j+1)).length ((idsT X (j+1)).map fun x=>ii x) 3)::(34,.row 2 O.length (O.flatMap Evt.cells) 62)::(35,.rwin 2 (X.drop (j+1)).length ((X.drop (j+1)).flatMap Evt.vals))::(36,.rwin 3 Y.length (Y.flatMap Prz.vals))::(9,.cells [ii ((i:Nat):Int),.opq 10,ii x.n.inp,.opq 11,.opq 12,.mp 17,.mp 18,.mp 19,.mp 20,.mp 21,.mp 22,.mp 23,.mp 24,.mp 25,.mp 26,.mp 27,.mp 28,.mp 29,.mp 30,.mp 31,.mp 32,.opq 13,.opq 14,.opq 15,.mp 16] 96)::(10,.row 8 x.n.N.length ((x.n.N.flatMap Prm.vals).map .v) 60)::(11,.row 4 x.n.S.length ((x.n.S.flatMap Syn.vals).map .v) 55)::(12,.row 2 x.n.N.length (s.st.flatMap Ste.cells) 139)::(13,.row 10 x.rs.length ((x.rs.flatMap Rul.vals).map .v) 36)::(14,.row 1 x.pl.length ((ints x.pl).map .v) 3)::(15,.row 4 x.pl.length (s.m.flatMap Mrk.cells) 84)::(16,.kmap true true x.tot)::(17,.kmap false false (sentE (s.sm 0)))::(18,.kmap false false (sentE (s.sm 1)))::(19,.kmap false false (sentE (s.sm 2)))::(20,.kmap false false (sentE (s.sm 3)))::(21,.kmap false false (sentE (s.sm 4)))::(22,.kmap false false (sentE (s.sm 5)))::(23,.kmap false false (sentE (s.sm 6)))::(24,.kmap false false (sentE (s.sm 7)))::(25,.kmap false false (sentE (s.sm 8)))::(26,.kmap false false (sentE (s.sm 9)))::(27,.kmap false false (sentE (s.sm 10)))::(28,.kmap false false (sentE (s.sm 11)))::(29,.kmap false false (sentE (s.sm 12)))::(30,.kmap false false (sentE (s.sm 13)))::(31,.kmap false false (sentE (s.sm 14)))::(32,.kmap false false (sentE (s.sm 15)))::(8,.cells [.v (.slice none 0 0),ii 0,.v (.slice none 0 0)] 25)::(6,.pin plp)::(2,.rwin 10 x.rs.length (x.rs.flatMap Rul.vals))::[])) (rq [(37,44),(44,37),(35,46),(46,35)]) 38 ?_ ?_ ?_ ?_ (ih2 trivial)
   ·intro i hi j hj hne he
    have inv : ∀ i,i<38→rq [(37,44),(44,37),(35,46),(46,35)] (rq [(37,44),(44,37),(35,46),(46,35)] i)=i:=by decide
    exact hne (by rw [← inv i hi,he,inv j hj])
   ·exact ⟨⟨rfl,(show 2<38 by decide)⟩,⟨rfl,(show 35<38 by decide)⟩,⟨rfl,(show 36<38 by decide)⟩,⟨rfl,(show 8<38 by decide)⟩,⟨rfl,(show 9<38 by decide)⟩,⟨rfl,(show 34<38 by decide)⟩,⟨rfl,trivial⟩,⟨rfl,trivial⟩,⟨rfl,trivial⟩,⟨rfl,(show 37<38 by decide)⟩,trivial⟩
   ·exact ⟨⟨by rw [oren_fix (S:=fun _=>False) (fun i hi=>hi.elim) (o := .row 1 (idsT X (j+1)).length ((idsT X (j+1)).map fun x=>ii x) 3) (scs_i _ _),idsT_succ hj1,List.length_append,List.map_append]; rfl,by omega,scs_i _ _⟩,⟨congrArg some (oren_fix (S:=fun _=>False) (fun i hi=>hi.elim) (o := .row 2 O.length (O.flatMap Evt.cells) 62) (scs_evts _ _)).symm,by omega,scs_evts _ _⟩,⟨rfl,by omega,trivial⟩,⟨rfl,by omega,trivial⟩,⟨rfl,by omega,by simp [SObj.sc,SV.scs,SV.sc]⟩,⟨congrArg some (oren_fix (S:=fun _=>False) (fun i hi=>hi.elim) (o := .row 8 x.n.N.length ((x.n.N.flatMap Prm.vals).map .v) 60) (scs_v _ _)).symm,by omega,scs_v _ _⟩,⟨congrArg some (oren_fix (S:=fun _=>False) (fun i hi=>hi.elim) (o := .row 4 x.n.S.length ((x.n.S.flatMap Syn.vals).map .v) 55) (scs_v _ _)).symm,by omega,scs_v _ _⟩,⟨congrArg some (oren_fix (S:=fun _=>False) (fun i hi=>hi.elim) (o := .row 2 x.n.N.length (s.st.flatMap Ste.cells) 139) (scs_st _ _)).symm,by omega,scs_st _ _⟩,⟨congrArg some (oren_fix (S:=fun _=>False) (fun i hi=>hi.elim) (o := .row 10 x.rs.length ((x.rs.flatMap Rul.vals).map .v) 36) (scs_v _ _)).symm,by omega,scs_v _ _⟩,⟨congrArg some (oren_fix (S:=fun _=>False) (fun i hi=>hi.elim) (o := .row 1 x.pl.length ((ints x.pl).map .v) 3) (scs_v _ _)).symm,by omega,scs_v _ _⟩,⟨congrArg some (oren_fix (S:=fun _=>False) (fun i hi=>hi.elim) (o := .row 4 x.pl.length (s.m.flatMap Mrk.cells) 84) (scs_marks _ _)).symm,by omega,scs_marks _ _⟩,⟨rfl,by omega,trivial⟩,⟨rfl,by omega,trivial⟩,⟨rfl,by omega,trivial⟩,⟨rfl,by omega,trivial⟩,⟨rfl,by omega,trivial⟩,⟨rfl,by omega,trivial⟩,⟨rfl,by omega,trivial⟩,⟨rfl,by omega,trivial⟩,⟨rfl,by omega,trivial⟩,⟨rfl,by omega,trivial⟩,⟨rfl,by omega,trivial⟩,⟨rfl,by omega,trivial⟩,⟨rfl,by omega,trivial⟩,⟨rfl,by omega,trivial⟩,⟨rfl,by omega,trivial⟩,⟨rfl,by omega,trivial⟩,⟨rfl,by omega,trivial⟩,⟨rfl,by omega,by simp [SObj.sc,SV.scs,SV.sc]⟩,⟨congrArg some (pin_fix hcov (fun i hi=>rq_fix (rq_noneB (B:=6) rfl hi))).symm,by omega,fun p hp=>Nat.lt_of_lt_of_le (hcov.1 p hp) (show 6≤38 by decide)⟩,⟨rfl,by omega,trivial⟩,trivial⟩
   ·intro p hp
    have:=hLB p hp; exact ⟨rq_fix (rq_noneB (B:=6) rfl this),by omega⟩
  ·intro _
   apply joinL [(1,.opq 2),(3,.opq 35),(4,.opq 36),(13,.ptr 8 0),(15,.ptr 9 0),(20,.opq 34),(60,ii (K:Int)),(61,ii ((i:Nat):Int)),(21,ii ((i:Nat):Int)),(22,.opq 37)] ((37,.row 1 (idsT X (nAt ((i:Nat):Int) X)).length ((idsT X (nAt ((i:Nat):Int) X)).map fun x=>ii x) 3)::(34,.row 2 O.length (O.flatMap Evt.cells) 62)::(35,.rwin 2 (X.drop (nAt ((i:Nat):Int) X)).length ((X.drop (nAt ((i:Nat):Int) X)).flatMap Evt.vals))::(36,.rwin 3 Y.length (Y.flatMap Prz.vals))::(9,.cells [ii ((i:Nat):Int),.opq 10,ii x.n.inp,.opq 11,.opq 12,.mp 17,.mp 18,.mp 19,.mp 20,.mp 21,.mp 22,.mp 23,.mp 24,.mp 25,.mp 26,.mp 27,.mp 28,.mp 29,.mp 30,.mp 31,.mp 32,.opq 13,.opq 14,.opq 15,.mp 16] 96)::(10,.row 8 x.n.N.length ((x.n.N.flatMap Prm.vals).map .v) 60)::(11,.row 4 x.n.S.length ((x.n.S.flatMap Syn.vals).map .v) 55)::(12,.row 2 x.n.N.length (s.st.flatMap Ste.cells) 139)::(13,.row 10 x.rs.length ((x.rs.flatMap Rul.vals).map .v) 36)::(14,.row 1 x.pl.length ((ints x.pl).map .v) 3)::(15,.row 4 x.pl.length (s.m.flatMap Mrk.cells) 84)::(16,.kmap true true x.tot)::(17,.kmap false false (sentE (s.sm 0)))::(18,.kmap false false (sentE (s.sm 1)))::(19,.kmap false false (sentE (s.sm 2)))::(20,.kmap false false (sentE (s.sm 3)))::(21,.kmap false false (sentE (s.sm 4)))::(22,.kmap false false (sentE (s.sm 5)))::(23,.kmap false false (sentE (s.sm 6)))::(24,.kmap false false (sentE (s.sm 7)))::(25,.kmap false false (sentE (s.sm 8)))::(26,.kmap false false (sentE (s.sm 9)))::(27,.kmap false false (sentE (s.sm 10)))::(28,.kmap false false (sentE (s.sm 11)))::(29,.kmap false false (sentE (s.sm 12)))::(30,.kmap false false (sentE (s.sm 13)))::(31,.kmap false false (sentE (s.sm 14)))::(32,.kmap false false (sentE (s.sm 15)))::(8,.cells [.v (.slice none 0 0),ii 0,.v (.slice none 0 0)] 25)::(6,.pin plp)::(2,.rwin 10 x.rs.length (x.rs.flatMap Rul.vals))::[]) 38
   ·intro tail
    refine Run.of_wpK (hc w L0 none (fun _ h=>by cases h)) 18 _ ?_
    conv=>whnf
    by_cases hlt:(nAt ((i:Nat):Int) X)<X.length
    ·have h0:0<(X.drop (nAt ((i:Nat):Int) X)).length:=by rw [List.length_drop]; omega
     have e0:(X.drop (nAt ((i:Nat):Int) X))[0]=X[(nAt ((i:Nat):Int) X)]:=by simp
     have hne:=nAt_end hlt
     rw [decide_eq_true (show (0:Int)<((X.drop (nAt ((i:Nat):Int) X)).length:Int) by omega)]
     conv=>whnf
     refine ⟨by omega,?_⟩
     conv=>whnf
     rw [opF_loadWf (f:=Evt.vals) (l:=X.drop (nAt ((i:Nat):Int) X)) (c := .int .i64 (X.drop (nAt ((i:Nat):Int) X))[0].tick) 0 0 rfl rfl rfl rfl Evt.vlen rfl h0 (by decide) rfl]
     conv=>whnf
     rw [e0,show (X[(nAt ((i:Nat):Int) X)].tick==((i:Nat):Int))=false by simpa using hne]
     conv=>whnf
     exact Run.trim (T':=[(1,.opq 2),(3,.opq 35),(4,.opq 36),(13,.ptr 8 0),(15,.ptr 9 0),(20,.opq 34),(60,ii (K:Int)),(61,ii ((i:Nat):Int)),(21,ii ((i:Nat):Int)),(22,.opq 37)]) (M':=((37,.row 1 (idsT X (nAt ((i:Nat):Int) X)).length ((idsT X (nAt ((i:Nat):Int) X)).map fun x=>ii x) 3)::(34,.row 2 O.length (O.flatMap Evt.cells) 62)::(35,.rwin 2 (X.drop (nAt ((i:Nat):Int) X)).length ((X.drop (nAt ((i:Nat):Int) X)).flatMap Evt.vals))::(36,.rwin 3 Y.length (Y.flatMap Prz.vals))::(9,.cells [ii ((i:Nat):Int),.opq 10,ii x.n.inp,.opq 11,.opq 12,.mp 17,.mp 18,.mp 19,.mp 20,.mp 21,.mp 22,.mp 23,.mp 24,.mp 25,.mp 26,.mp 27,.mp 28,.mp 29,.mp 30,.mp 31,.mp 32,.opq 13,.opq 14,.opq 15,.mp 16] 96)::(10,.row 8 x.n.N.length ((x.n.N.flatMap Prm.vals).map .v) 60)::(11,.row 4 x.n.S.length ((x.n.S.flatMap Syn.vals).map .v) 55)::(12,.row 2 x.n.N.length (s.st.flatMap Ste.cells) 139)::(13,.row 10 x.rs.length ((x.rs.flatMap Rul.vals).map .v) 36)::(14,.row 1 x.pl.length ((ints x.pl).map .v) 3)::(15,.row 4 x.pl.length (s.m.flatMap Mrk.cells) 84)::(16,.kmap true true x.tot)::(17,.kmap false false (sentE (s.sm 0)))::(18,.kmap false false (sentE (s.sm 1)))::(19,.kmap false false (sentE (s.sm 2)))::(20,.kmap false false (sentE (s.sm 3)))::(21,.kmap false false (sentE (s.sm 4)))::(22,.kmap false false (sentE (s.sm 5)))::(23,.kmap false false (sentE (s.sm 6)))::(24,.kmap false false (sentE (s.sm 7)))::(25,.kmap false false (sentE (s.sm 8)))::(26,.kmap false false (sentE (s.sm 9)))::(27,.kmap false false (sentE (s.sm 10)))::(28,.kmap false false (sentE (s.sm 11)))::(29,.kmap false false (sentE (s.sm 12)))::(30,.kmap false false (sentE (s.sm 13)))::(31,.kmap false false (sentE (s.sm 14)))::(32,.kmap false false (sentE (s.sm 15)))::(8,.cells [.v (.slice none 0 0),ii 0,.v (.slice none 0 0)] 25)::(6,.pin plp)::(2,.rwin 10 x.rs.length (x.rs.flatMap Rul.vals))::[])) 38 ⟨⟨rfl,(show 2<38 by decide)⟩,⟨rfl,(show 35<38 by decide)⟩,⟨rfl,(show 36<38 by decide)⟩,⟨rfl,(show 8<38 by decide)⟩,⟨rfl,(show 9<38 by decide)⟩,⟨rfl,(show 34<38 by decide)⟩,⟨rfl,trivial⟩,⟨rfl,trivial⟩,⟨rfl,trivial⟩,⟨rfl,(show 37<38 by decide)⟩,trivial⟩ ⟨⟨rfl,by omega,scs_i _ _⟩,⟨rfl,by omega,scs_evts _ _⟩,⟨rfl,by omega,trivial⟩,⟨rfl,by omega,trivial⟩,⟨rfl,by omega,by simp [SObj.sc,SV.scs,SV.sc]⟩,⟨rfl,by omega,scs_v _ _⟩,⟨rfl,by omega,scs_v _ _⟩,⟨rfl,by omega,scs_st _ _⟩,⟨rfl,by omega,scs_v _ _⟩,⟨rfl,by omega,scs_v _ _⟩,⟨rfl,by omega,scs_marks _ _⟩,⟨rfl,by omega,trivial⟩,⟨rfl,by omega,trivial⟩,⟨rfl,by omega,trivial⟩,⟨rfl,by omega,trivial⟩,⟨rfl,by omega,trivial⟩,⟨rfl,by omega,trivial⟩,⟨rfl,by omega,trivial⟩,⟨rfl,by omega,trivial⟩,⟨rfl,by omega,trivial⟩,⟨rfl,by omega,trivial⟩,⟨rfl,by omega,trivial⟩,⟨rfl,by omega,trivial⟩,⟨rfl,by omega,trivial⟩,⟨rfl,by omega,trivial⟩,⟨rfl,by omega,trivial⟩,⟨rfl,by omega,trivial⟩,⟨rfl,by omega,trivial⟩,⟨rfl,by omega,by simp [SObj.sc,SV.scs,SV.sc]⟩,⟨rfl,by omega,fun p hp=>Nat.lt_of_lt_of_le (hcov.1 p hp) (show 6≤38 by decide)⟩,⟨rfl,by omega,trivial⟩,trivial⟩ (fun p hp=>by have:=hLB p hp; omega) tail
    ·have h0:(X.drop (nAt ((i:Nat):Int) X)).length=0:=by rw [List.length_drop]; omega
     rw [decide_eq_false (show ¬ (0:Int)<((X.drop (nAt ((i:Nat):Int) X)).length:Int) by omega)]
     conv=>whnf
     exact Run.trim (T':=[(1,.opq 2),(3,.opq 35),(4,.opq 36),(13,.ptr 8 0),(15,.ptr 9 0),(20,.opq 34),(60,ii (K:Int)),(61,ii ((i:Nat):Int)),(21,ii ((i:Nat):Int)),(22,.opq 37)]) (M':=((37,.row 1 (idsT X (nAt ((i:Nat):Int) X)).length ((idsT X (nAt ((i:Nat):Int) X)).map fun x=>ii x) 3)::(34,.row 2 O.length (O.flatMap Evt.cells) 62)::(35,.rwin 2 (X.drop (nAt ((i:Nat):Int) X)).length ((X.drop (nAt ((i:Nat):Int) X)).flatMap Evt.vals))::(36,.rwin 3 Y.length (Y.flatMap Prz.vals))::(9,.cells [ii ((i:Nat):Int),.opq 10,ii x.n.inp,.opq 11,.opq 12,.mp 17,.mp 18,.mp 19,.mp 20,.mp 21,.mp 22,.mp 23,.mp 24,.mp 25,.mp 26,.mp 27,.mp 28,.mp 29,.mp 30,.mp 31,.mp 32,.opq 13,.opq 14,.opq 15,.mp 16] 96)::(10,.row 8 x.n.N.length ((x.n.N.flatMap Prm.vals).map .v) 60)::(11,.row 4 x.n.S.length ((x.n.S.flatMap Syn.vals).map .v) 55)::(12,.row 2 x.n.N.length (s.st.flatMap Ste.cells) 139)::(13,.row 10 x.rs.length ((x.rs.flatMap Rul.vals).map .v) 36)::(14,.row 1 x.pl.length ((ints x.pl).map .v) 3)::(15,.row 4 x.pl.length (s.m.flatMap Mrk.cells) 84)::(16,.kmap true true x.tot)::(17,.kmap false false (sentE (s.sm 0)))::(18,.kmap false false (sentE (s.sm 1)))::(19,.kmap false false (sentE (s.sm 2)))::(20,.kmap false false (sentE (s.sm 3)))::(21,.kmap false false (sentE (s.sm 4)))::(22,.kmap false false (sentE (s.sm 5)))::(23,.kmap false false (sentE (s.sm 6)))::(24,.kmap false false (sentE (s.sm 7)))::(25,.kmap false false (sentE (s.sm 8)))::(26,.kmap false false (sentE (s.sm 9)))::(27,.kmap false false (sentE (s.sm 10)))::(28,.kmap false false (sentE (s.sm 11)))::(29,.kmap false false (sentE (s.sm 12)))::(30,.kmap false false (sentE (s.sm 13)))::(31,.kmap false false (sentE (s.sm 14)))::(32,.kmap false false (sentE (s.sm 15)))::(8,.cells [.v (.slice none 0 0),ii 0,.v (.slice none 0 0)] 25)::(6,.pin plp)::(2,.rwin 10 x.rs.length (x.rs.flatMap Rul.vals))::[])) 38 ⟨⟨rfl,(show 2<38 by decide)⟩,⟨rfl,(show 35<38 by decide)⟩,⟨rfl,(show 36<38 by decide)⟩,⟨rfl,(show 8<38 by decide)⟩,⟨rfl,(show 9<38 by decide)⟩,⟨rfl,(show 34<38 by decide)⟩,⟨rfl,trivial⟩,⟨rfl,trivial⟩,⟨rfl,trivial⟩,⟨rfl,(show 37<38 by decide)⟩,trivial⟩ ⟨⟨rfl,by omega,scs_i _ _⟩,⟨rfl,by omega,scs_evts _ _⟩,⟨rfl,by omega,trivial⟩,⟨rfl,by omega,trivial⟩,⟨rfl,by omega,by simp [SObj.sc,SV.scs,SV.sc]⟩,⟨rfl,by omega,scs_v _ _⟩,⟨rfl,by omega,scs_v _ _⟩,⟨rfl,by omega,scs_st _ _⟩,⟨rfl,by omega,scs_v _ _⟩,⟨rfl,by omega,scs_v _ _⟩,⟨rfl,by omega,scs_marks _ _⟩,⟨rfl,by omega,trivial⟩,⟨rfl,by omega,trivial⟩,⟨rfl,by omega,trivial⟩,⟨rfl,by omega,trivial⟩,⟨rfl,by omega,trivial⟩,⟨rfl,by omega,trivial⟩,⟨rfl,by omega,trivial⟩,⟨rfl,by omega,trivial⟩,⟨rfl,by omega,trivial⟩,⟨rfl,by omega,trivial⟩,⟨rfl,by omega,trivial⟩,⟨rfl,by omega,trivial⟩,⟨rfl,by omega,trivial⟩,⟨rfl,by omega,trivial⟩,⟨rfl,by omega,trivial⟩,⟨rfl,by omega,trivial⟩,⟨rfl,by omega,trivial⟩,⟨rfl,by omega,by simp [SObj.sc,SV.scs,SV.sc]⟩,⟨rfl,by omega,fun p hp=>Nat.lt_of_lt_of_le (hcov.1 p hp) (show 6≤38 by decide)⟩,⟨rfl,by omega,trivial⟩,trivial⟩ (fun p hp=>by have:=hLB p hp; omega) tail
   ·refine Run.of_wpK (hc w L0 none (fun _ h=>by cases h)) 1000 _ ?_
    conv=>whnf
    rw [opF_make (m:=x.rs.length) rfl rfl rfl rfl rfl rfl (by omega) (by omega),show List.replicate x.rs.length (SV.v (.int .i64 0))=(rwY x.rs.length Y 0).map fun x=>ii x by simp [rwY,ii]]
    conv=>whnf
    refine Run.trim (T':=[(1,.opq 2),(3,.opq 35),(4,.opq 36),(13,.ptr 8 0),(15,.ptr 9 0),(20,.opq 34),(60,ii (K:Int)),(61,ii ((i:Nat):Int)),(21,ii ((i:Nat):Int)),(22,.opq 37),(23,.opq 38)]) (M':=((38,.row 1 x.rs.length ((rwY x.rs.length Y 0).map fun x=>ii x) 3)::(37,.row 1 (idsT X (nAt ((i:Nat):Int) X)).length ((idsT X (nAt ((i:Nat):Int) X)).map fun x=>ii x) 3)::(34,.row 2 O.length (O.flatMap Evt.cells) 62)::(35,.rwin 2 (X.drop (nAt ((i:Nat):Int) X)).length ((X.drop (nAt ((i:Nat):Int) X)).flatMap Evt.vals))::(36,.rwin 3 (Y.drop 0).length ((Y.drop 0).flatMap Prz.vals))::(9,.cells [ii ((i:Nat):Int),.opq 10,ii x.n.inp,.opq 11,.opq 12,.mp 17,.mp 18,.mp 19,.mp 20,.mp 21,.mp 22,.mp 23,.mp 24,.mp 25,.mp 26,.mp 27,.mp 28,.mp 29,.mp 30,.mp 31,.mp 32,.opq 13,.opq 14,.opq 15,.mp 16] 96)::(10,.row 8 x.n.N.length ((x.n.N.flatMap Prm.vals).map .v) 60)::(11,.row 4 x.n.S.length ((x.n.S.flatMap Syn.vals).map .v) 55)::(12,.row 2 x.n.N.length (s.st.flatMap Ste.cells) 139)::(13,.row 10 x.rs.length ((x.rs.flatMap Rul.vals).map .v) 36)::(14,.row 1 x.pl.length ((ints x.pl).map .v) 3)::(15,.row 4 x.pl.length (s.m.flatMap Mrk.cells) 84)::(16,.kmap true true x.tot)::(17,.kmap false false (sentE (s.sm 0)))::(18,.kmap false false (sentE (s.sm 1)))::(19,.kmap false false (sentE (s.sm 2)))::(20,.kmap false false (sentE (s.sm 3)))::(21,.kmap false false (sentE (s.sm 4)))::(22,.kmap false false (sentE (s.sm 5)))::(23,.kmap false false (sentE (s.sm 6)))::(24,.kmap false false (sentE (s.sm 7)))::(25,.kmap false false (sentE (s.sm 8)))::(26,.kmap false false (sentE (s.sm 9)))::(27,.kmap false false (sentE (s.sm 10)))::(28,.kmap false false (sentE (s.sm 11)))::(29,.kmap false false (sentE (s.sm 12)))::(30,.kmap false false (sentE (s.sm 13)))::(31,.kmap false false (sentE (s.sm 14)))::(32,.kmap false false (sentE (s.sm 15)))::(8,.cells [.v (.slice none 0 0),ii 0,.v (.slice none 0 0)] 25)::(6,.pin plp)::(2,.rwin 10 x.rs.length (x.rs.flatMap Rul.vals))::[])) 39 ⟨⟨rfl,(show 2<39 by decide)⟩,⟨rfl,(show 35<39 by decide)⟩,⟨rfl,(show 36<39 by decide)⟩,⟨rfl,(show 8<39 by decide)⟩,⟨rfl,(show 9<39 by decide)⟩,⟨rfl,(show 34<39 by decide)⟩,⟨rfl,trivial⟩,⟨rfl,trivial⟩,⟨rfl,trivial⟩,⟨rfl,(show 37<39 by decide)⟩,⟨rfl,(show 38<39 by decide)⟩,trivial⟩ ⟨⟨rfl,by omega,scs_i _ _⟩,⟨rfl,by omega,scs_i _ _⟩,⟨rfl,by omega,scs_evts _ _⟩,⟨rfl,by omega,trivial⟩,⟨rfl,by omega,trivial⟩,⟨rfl,by omega,by simp [SObj.sc,SV.scs,SV.sc]⟩,⟨rfl,by omega,scs_v _ _⟩,⟨rfl,by omega,scs_v _ _⟩,⟨rfl,by omega,scs_st _ _⟩,⟨rfl,by omega,scs_v _ _⟩,⟨rfl,by omega,scs_v _ _⟩,⟨rfl,by omega,scs_marks _ _⟩,⟨rfl,by omega,trivial⟩,⟨rfl,by omega,trivial⟩,⟨rfl,by omega,trivial⟩,⟨rfl,by omega,trivial⟩,⟨rfl,by omega,trivial⟩,⟨rfl,by omega,trivial⟩,⟨rfl,by omega,trivial⟩,⟨rfl,by omega,trivial⟩,⟨rfl,by omega,trivial⟩,⟨rfl,by omega,trivial⟩,⟨rfl,by omega,trivial⟩,⟨rfl,by omega,trivial⟩,⟨rfl,by omega,trivial⟩,⟨rfl,by omega,trivial⟩,⟨rfl,by omega,trivial⟩,⟨rfl,by omega,trivial⟩,⟨rfl,by omega,trivial⟩,⟨rfl,by omega,by simp [SObj.sc,SV.scs,SV.sc]⟩,⟨rfl,by omega,fun p hp=>Nat.lt_of_lt_of_le (hcov.1 p hp) (show 6≤39 by decide)⟩,⟨rfl,by omega,trivial⟩,trivial⟩ (fun p hp=>by have:=hLB p hp; omega) ?_
    refine Run.upToJ (T:=fun _=>[(1,.opq 2),(3,.opq 35),(4,.opq 36),(13,.ptr 8 0),(15,.ptr 9 0),(20,.opq 34),(60,ii (K:Int)),(61,ii ((i:Nat):Int)),(21,ii ((i:Nat):Int)),(22,.opq 37),(23,.opq 38)]) (M:=fun j=>((38,.row 1 x.rs.length ((rwY x.rs.length Y j).map fun x=>ii x) 3)::(37,.row 1 (idsT X (nAt ((i:Nat):Int) X)).length ((idsT X (nAt ((i:Nat):Int) X)).map fun x=>ii x) 3)::(34,.row 2 O.length (O.flatMap Evt.cells) 62)::(35,.rwin 2 (X.drop (nAt ((i:Nat):Int) X)).length ((X.drop (nAt ((i:Nat):Int) X)).flatMap Evt.vals))::(36,.rwin 3 (Y.drop j).length ((Y.drop j).flatMap Prz.vals))::(9,.cells [ii ((i:Nat):Int),.opq 10,ii x.n.inp,.opq 11,.opq 12,.mp 17,.mp 18,.mp 19,.mp 20,.mp 21,.mp 22,.mp 23,.mp 24,.mp 25,.mp 26,.mp 27,.mp 28,.mp 29,.mp 30,.mp 31,.mp 32,.opq 13,.opq 14,.opq 15,.mp 16] 96)::(10,.row 8 x.n.N.length ((x.n.N.flatMap Prm.vals).map .v) 60)::(11,.row 4 x.n.S.length ((x.n.S.flatMap Syn.vals).map .v) 55)::(12,.row 2 x.n.N.length (s.st.flatMap Ste.cells) 139)::(13,.row 10 x.rs.length ((x.rs.flatMap Rul.vals).map .v) 36)::(14,.row 1 x.pl.length ((ints x.pl).map .v) 3)::(15,.row 4 x.pl.length (s.m.flatMap Mrk.cells) 84)::(16,.kmap true true x.tot)::(17,.kmap false false (sentE (s.sm 0)))::(18,.kmap false false (sentE (s.sm 1)))::(19,.kmap false false (sentE (s.sm 2)))::(20,.kmap false false (sentE (s.sm 3)))::(21,.kmap false false (sentE (s.sm 4)))::(22,.kmap false false (sentE (s.sm 5)))::(23,.kmap false false (sentE (s.sm 6)))::(24,.kmap false false (sentE (s.sm 7)))::(25,.kmap false false (sentE (s.sm 8)))::(26,.kmap false false (sentE (s.sm 9)))::(27,.kmap false false (sentE (s.sm 10)))::(28,.kmap false false (sentE (s.sm 11)))::(29,.kmap false false (sentE (s.sm 12)))::(30,.kmap false false (sentE (s.sm 13)))::(31,.kmap false false (sentE (s.sm 14)))::(32,.kmap false false (sentE (s.sm 15)))::(8,.cells [.v (.slice none 0 0),ii 0,.v (.slice none 0 0)] 25)::(6,.pin plp)::(2,.rwin 10 x.rs.length (x.rs.flatMap Rul.vals))::[])) (fun _=>True) (nPz ((i:Nat):Int) Y) trivial ?_ ?_
    ·intro j hj _ ih2
     obtain ⟨hj1,hj2⟩:=nPz_lt hj
     have h0:0<(Y.drop j).length:=by rw [List.length_drop]; omega
     have e0:(Y.drop j)[0]=Y[j]:=by simp
     obtain ⟨hr0,hr1,hv0,hv1⟩:=hYr Y[j] (List.getElem_mem hj1)
     have hrl:=rwY_len x.rs.length Y j
     refine Run.of_wpK (hc w L0 none (fun _ h=>by cases h)) 1000 _ ?_
     conv=>whnf
     rw [decide_eq_true (show (0:Int)<((Y.drop j).length:Int) by omega)]
     conv=>whnf
     refine ⟨by omega,?_⟩
     conv=>whnf
     rw [opF_loadWf (f:=Prz.vals) (l:=Y.drop j) (c := .int .i64 (Y.drop j)[0].tick) 0 0 rfl rfl rfl rfl Prz.vlen rfl h0 (by decide) rfl]
     conv=>whnf
     rw [e0,hj2,show (((i:Nat):Int)==((i:Nat):Int))=true by simp]
     conv=>whnf
     refine Run.draw (hc w L0 none (fun _ h=>by cases h)) 14 ?_
     rw [show upto 0 14=upto 0 3++(upto 3 2++(upto 5 2++(upto 7 2++(upto 9 2++(upto 11 1++(upto 12 1++upto 13 1)))))) from rfl]
     simp only [drawK_app]
     conv=>whnf
     refine ⟨by omega,?_⟩
     conv=>whnf
     rw [opF_loadWf (f:=Prz.vals) (l:=Y.drop j) (c := .int .i64 (Y.drop j)[0].id) 0 1 rfl rfl rfl rfl Prz.vlen rfl h0 (by decide) rfl]
     conv=>whnf
     rw [e0]
     conv=>whnf
     refine ⟨by omega,?_⟩
     conv=>whnf
     rw [opF_loadWf (f:=Prz.vals) (l:=Y.drop j) (c := .int .i64 (Y.drop j)[0].val) 0 2 rfl rfl rfl rfl Prz.vlen rfl h0 (by decide) rfl]
     conv=>whnf
     rw [e0]
     conv=>whnf
     rw [opF_sliceW 1 rfl rfl rfl rfl rfl rfl (by omega),drop_flat Prz.vlen,List.drop_drop,show (Y.drop j).length-1=(Y.drop (j+1)).length by simp; omega]
     conv=>whnf
     refine ⟨by omega,?_⟩
     conv=>whnf
     rw [opF_storeR1 (v:=ii Y[j].val) Y[j].id.toNat rfl rfl rfl rfl rfl (by rw [idx_eq,Nat.mul_one]) (by rw [List.length_map]; omega) rfl rfl,show ((rwY x.rs.length Y j).map fun x=>ii x).set Y[j].id.toNat (ii Y[j].val)=(rwY x.rs.length Y (j+1)).map fun x=>ii x by rw [rwY_succ hj1,List.map_set]]
     conv=>whnf
     refine ⟨by kernel_rfl,?_⟩
     refine Run.of_wpK (hc w L0 none (fun _ h=>by cases h)) 1000 _ ?_
     conv=>whnf
     refine Run.trimQ (T':=[(1,.opq 2),(3,.opq 35),(4,.opq 36),(13,.ptr 8 0),(15,.ptr 9 0),(20,.opq 34),(60,ii (K:Int)),(61,ii ((i:Nat):Int)),(21,ii ((i:Nat):Int)),(22,.opq 37),(23,.opq 38)]) (M':=((38,.row 1 x.rs.length ((rwY x.rs.length Y (j+1)).map fun x=>ii x) 3)::(37,.row 1 (idsT X (nAt ((i:Nat):Int) X)).length ((idsT X (nAt ((i:Nat):Int) X)).map fun x=>ii x) 3)::(34,.row 2 O.length (O.flatMap Evt.cells) 62)::(35,.rwin 2 (X.drop (nAt ((i:Nat):Int) X)).length ((X.drop (nAt ((i:Nat):Int) X)).flatMap Evt.vals))::(36,.rwin 3 (Y.drop (j+1)).length ((Y.drop (j+1)).flatMap Prz.vals))::(9,.cells [ii ((i:Nat):Int),.opq 10,ii x.n.inp,.opq 11,.opq 12,.mp 17,.mp 18,.mp 19,.mp 20,.mp 21,.mp 22,.mp 23,.mp 24,.mp 25,.mp 26,.mp 27,.mp 28,.mp 29,.mp 30,.mp 31,.mp 32,.opq 13,.opq 14,.opq 15,.mp 16] 96)::(10,.row 8 x.n.N.length ((x.n.N.flatMap Prm.vals).map .v) 60)::(11,.row 4 x.n.S.length ((x.n.S.flatMap Syn.vals).map .v) 55)::(12,.row 2 x.n.N.length (s.st.flatMap Ste.cells) 139)::(13,.row 10 x.rs.length ((x.rs.flatMap Rul.vals).map .v) 36)::(14,.row 1 x.pl.length ((ints x.pl).map .v) 3)::(15,.row 4 x.pl.length (s.m.flatMap Mrk.cells) 84)::(16,.kmap true true x.tot)::(17,.kmap false false (sentE (s.sm 0)))::(18,.kmap false false (sentE (s.sm 1)))::(19,.kmap false false (sentE (s.sm 2)))::(20,.kmap false false (sentE (s.sm 3)))::(21,.kmap false false (sentE (s.sm 4)))::(22,.kmap false false (sentE (s.sm 5)))::(23,.kmap false false (sentE (s.sm 6)))::(24,.kmap false false (sentE (s.sm 7)))::(25,.kmap false false (sentE (s.sm 8)))::(26,.kmap false false (sentE (s.sm 9)))::(27,.kmap false false (sentE (s.sm 10)))::(28,.kmap false false (sentE (s.sm 11)))::(29,.kmap false false (sentE (s.sm 12)))::(30,.kmap false false (sentE (s.sm 13)))::(31,.kmap false false (sentE (s.sm 14)))::(32,.kmap false false (sentE (s.sm 15)))::(8,.cells [.v (.slice none 0 0),ii 0,.v (.slice none 0 0)] 25)::(6,.pin plp)::(2,.rwin 10 x.rs.length (x.rs.flatMap Rul.vals))::[])) (rq [(36,49),(49,36)]) 39 ?_ ?_ ?_ ?_ (ih2 trivial)
     ·intro i hi j hj hne he
      have inv : ∀ i,i<39→rq [(36,49),(49,36)] (rq [(36,49),(49,36)] i)=i:=by decide
      exact hne (by rw [← inv i hi,he,inv j hj])
     ·exact ⟨⟨rfl,(show 2<39 by decide)⟩,⟨rfl,(show 35<39 by decide)⟩,⟨rfl,(show 36<39 by decide)⟩,⟨rfl,(show 8<39 by decide)⟩,⟨rfl,(show 9<39 by decide)⟩,⟨rfl,(show 34<39 by decide)⟩,⟨rfl,trivial⟩,⟨rfl,trivial⟩,⟨rfl,trivial⟩,⟨rfl,(show 37<39 by decide)⟩,⟨rfl,(show 38<39 by decide)⟩,trivial⟩
     ·exact ⟨⟨congrArg some (oren_fix (S:=fun _=>False) (fun i hi=>hi.elim) (o := .row 1 x.rs.length ((rwY x.rs.length Y (j+1)).map fun x=>ii x) 3) (scs_i _ _)).symm,by omega,scs_i _ _⟩,⟨congrArg some (oren_fix (S:=fun _=>False) (fun i hi=>hi.elim) (o := .row 1 (idsT X (nAt ((i:Nat):Int) X)).length ((idsT X (nAt ((i:Nat):Int) X)).map fun x=>ii x) 3) (scs_i _ _)).symm,by omega,scs_i _ _⟩,⟨congrArg some (oren_fix (S:=fun _=>False) (fun i hi=>hi.elim) (o := .row 2 O.length (O.flatMap Evt.cells) 62) (scs_evts _ _)).symm,by omega,scs_evts _ _⟩,⟨rfl,by omega,trivial⟩,⟨rfl,by omega,trivial⟩,⟨rfl,by omega,by simp [SObj.sc,SV.scs,SV.sc]⟩,⟨congrArg some (oren_fix (S:=fun _=>False) (fun i hi=>hi.elim) (o := .row 8 x.n.N.length ((x.n.N.flatMap Prm.vals).map .v) 60) (scs_v _ _)).symm,by omega,scs_v _ _⟩,⟨congrArg some (oren_fix (S:=fun _=>False) (fun i hi=>hi.elim) (o := .row 4 x.n.S.length ((x.n.S.flatMap Syn.vals).map .v) 55) (scs_v _ _)).symm,by omega,scs_v _ _⟩,⟨congrArg some (oren_fix (S:=fun _=>False) (fun i hi=>hi.elim) (o := .row 2 x.n.N.length (s.st.flatMap Ste.cells) 139) (scs_st _ _)).symm,by omega,scs_st _ _⟩,⟨congrArg some (oren_fix (S:=fun _=>False) (fun i hi=>hi.elim) (o := .row 10 x.rs.length ((x.rs.flatMap Rul.vals).map .v) 36) (scs_v _ _)).symm,by omega,scs_v _ _⟩,⟨congrArg some (oren_fix (S:=fun _=>False) (fun i hi=>hi.elim) (o := .row 1 x.pl.length ((ints x.pl).map .v) 3) (scs_v _ _)).symm,by omega,scs_v _ _⟩,⟨congrArg some (oren_fix (S:=fun _=>False) (fun i hi=>hi.elim) (o := .row 4 x.pl.length (s.m.flatMap Mrk.cells) 84) (scs_marks _ _)).symm,by omega,scs_marks _ _⟩,⟨rfl,by omega,trivial⟩,⟨rfl,by omega,trivial⟩,⟨rfl,by omega,trivial⟩,⟨rfl,by omega,trivial⟩,⟨rfl,by omega,trivial⟩,⟨rfl,by omega,trivial⟩,⟨rfl,by omega,trivial⟩,⟨rfl,by omega,trivial⟩,⟨rfl,by omega,trivial⟩,⟨rfl,by omega,trivial⟩,⟨rfl,by omega,trivial⟩,⟨rfl,by omega,trivial⟩,⟨rfl,by omega,trivial⟩,⟨rfl,by omega,trivial⟩,⟨rfl,by omega,trivial⟩,⟨rfl,by omega,trivial⟩,⟨rfl,by omega,trivial⟩,⟨rfl,by omega,by simp [SObj.sc,SV.scs,SV.sc]⟩,⟨congrArg some (pin_fix hcov (fun i hi=>rq_fix (rq_noneB (B:=6) rfl hi))).symm,by omega,fun p hp=>Nat.lt_of_lt_of_le (hcov.1 p hp) (show 6≤39 by decide)⟩,⟨rfl,by omega,trivial⟩,trivial⟩
     ·intro p hp
      have:=hLB p hp; exact ⟨rq_fix (rq_noneB (B:=6) rfl this),by omega⟩
    ·intro _
     apply joinL [(1,.opq 2),(3,.opq 35),(4,.opq 36),(13,.ptr 8 0),(15,.ptr 9 0),(20,.opq 34),(60,ii (K:Int)),(61,ii ((i:Nat):Int)),(21,ii ((i:Nat):Int)),(22,.opq 37),(23,.opq 38)] ((38,.row 1 x.rs.length ((rwY x.rs.length Y (nPz ((i:Nat):Int) Y)).map fun x=>ii x) 3)::(37,.row 1 (idsT X (nAt ((i:Nat):Int) X)).length ((idsT X (nAt ((i:Nat):Int) X)).map fun x=>ii x) 3)::(34,.row 2 O.length (O.flatMap Evt.cells) 62)::(35,.rwin 2 (X.drop (nAt ((i:Nat):Int) X)).length ((X.drop (nAt ((i:Nat):Int) X)).flatMap Evt.vals))::(36,.rwin 3 (Y.drop (nPz ((i:Nat):Int) Y)).length ((Y.drop (nPz ((i:Nat):Int) Y)).flatMap Prz.vals))::(9,.cells [ii ((i:Nat):Int),.opq 10,ii x.n.inp,.opq 11,.opq 12,.mp 17,.mp 18,.mp 19,.mp 20,.mp 21,.mp 22,.mp 23,.mp 24,.mp 25,.mp 26,.mp 27,.mp 28,.mp 29,.mp 30,.mp 31,.mp 32,.opq 13,.opq 14,.opq 15,.mp 16] 96)::(10,.row 8 x.n.N.length ((x.n.N.flatMap Prm.vals).map .v) 60)::(11,.row 4 x.n.S.length ((x.n.S.flatMap Syn.vals).map .v) 55)::(12,.row 2 x.n.N.length (s.st.flatMap Ste.cells) 139)::(13,.row 10 x.rs.length ((x.rs.flatMap Rul.vals).map .v) 36)::(14,.row 1 x.pl.length ((ints x.pl).map .v) 3)::(15,.row 4 x.pl.length (s.m.flatMap Mrk.cells) 84)::(16,.kmap true true x.tot)::(17,.kmap false false (sentE (s.sm 0)))::(18,.kmap false false (sentE (s.sm 1)))::(19,.kmap false false (sentE (s.sm 2)))::(20,.kmap false false (sentE (s.sm 3)))::(21,.kmap false false (sentE (s.sm 4)))::(22,.kmap false false (sentE (s.sm 5)))::(23,.kmap false false (sentE (s.sm 6)))::(24,.kmap false false (sentE (s.sm 7)))::(25,.kmap false false (sentE (s.sm 8)))::(26,.kmap false false (sentE (s.sm 9)))::(27,.kmap false false (sentE (s.sm 10)))::(28,.kmap false false (sentE (s.sm 11)))::(29,.kmap false false (sentE (s.sm 12)))::(30,.kmap false false (sentE (s.sm 13)))::(31,.kmap false false (sentE (s.sm 14)))::(32,.kmap false false (sentE (s.sm 15)))::(8,.cells [.v (.slice none 0 0),ii 0,.v (.slice none 0 0)] 25)::(6,.pin plp)::(2,.rwin 10 x.rs.length (x.rs.flatMap Rul.vals))::[]) 39
     ·intro tail
      refine Run.of_wpK (hc w L0 none (fun _ h=>by cases h)) 18 _ ?_
      conv=>whnf
      by_cases hlt:(nPz ((i:Nat):Int) Y)<Y.length
      ·have h0:0<(Y.drop (nPz ((i:Nat):Int) Y)).length:=by rw [List.length_drop]; omega
       have e0:(Y.drop (nPz ((i:Nat):Int) Y))[0]=Y[(nPz ((i:Nat):Int) Y)]:=by simp
       have hne:=nPz_end hlt
       rw [decide_eq_true (show (0:Int)<((Y.drop (nPz ((i:Nat):Int) Y)).length:Int) by omega)]
       conv=>whnf
       refine ⟨by omega,?_⟩
       conv=>whnf
       rw [opF_loadWf (f:=Prz.vals) (l:=Y.drop (nPz ((i:Nat):Int) Y)) (c := .int .i64 (Y.drop (nPz ((i:Nat):Int) Y))[0].tick) 0 0 rfl rfl rfl rfl Prz.vlen rfl h0 (by decide) rfl]
       conv=>whnf
       rw [e0,show (Y[(nPz ((i:Nat):Int) Y)].tick==((i:Nat):Int))=false by simpa using hne]
       conv=>whnf
       exact Run.trim (T':=[(1,.opq 2),(3,.opq 35),(4,.opq 36),(13,.ptr 8 0),(15,.ptr 9 0),(20,.opq 34),(60,ii (K:Int)),(61,ii ((i:Nat):Int)),(21,ii ((i:Nat):Int)),(22,.opq 37),(23,.opq 38)]) (M':=((38,.row 1 x.rs.length ((rwY x.rs.length Y (nPz ((i:Nat):Int) Y)).map fun x=>ii x) 3)::(37,.row 1 (idsT X (nAt ((i:Nat):Int) X)).length ((idsT X (nAt ((i:Nat):Int) X)).map fun x=>ii x) 3)::(34,.row 2 O.length (O.flatMap Evt.cells) 62)::(35,.rwin 2 (X.drop (nAt ((i:Nat):Int) X)).length ((X.drop (nAt ((i:Nat):Int) X)).flatMap Evt.vals))::(36,.rwin 3 (Y.drop (nPz ((i:Nat):Int) Y)).length ((Y.drop (nPz ((i:Nat):Int) Y)).flatMap Prz.vals))::(9,.cells [ii ((i:Nat):Int),.opq 10,ii x.n.inp,.opq 11,.opq 12,.mp 17,.mp 18,.mp 19,.mp 20,.mp 21,.mp 22,.mp 23,.mp 24,.mp 25,.mp 26,.mp 27,.mp 28,.mp 29,.mp 30,.mp 31,.mp 32,.opq 13,.opq 14,.opq 15,.mp 16] 96)::(10,.row 8 x.n.N.length ((x.n.N.flatMap Prm.vals).map .v) 60)::(11,.row 4 x.n.S.length ((x.n.S.flatMap Syn.vals).map .v) 55)::(12,.row 2 x.n.N.length (s.st.flatMap Ste.cells) 139)::(13,.row 10 x.rs.length ((x.rs.flatMap Rul.vals).map .v) 36)::(14,.row 1 x.pl.length ((ints x.pl).map .v) 3)::(15,.row 4 x.pl.length (s.m.flatMap Mrk.cells) 84)::(16,.kmap true true x.tot)::(17,.kmap false false (sentE (s.sm 0)))::(18,.kmap false false (sentE (s.sm 1)))::(19,.kmap false false (sentE (s.sm 2)))::(20,.kmap false false (sentE (s.sm 3)))::(21,.kmap false false (sentE (s.sm 4)))::(22,.kmap false false (sentE (s.sm 5)))::(23,.kmap false false (sentE (s.sm 6)))::(24,.kmap false false (sentE (s.sm 7)))::(25,.kmap false false (sentE (s.sm 8)))::(26,.kmap false false (sentE (s.sm 9)))::(27,.kmap false false (sentE (s.sm 10)))::(28,.kmap false false (sentE (s.sm 11)))::(29,.kmap false false (sentE (s.sm 12)))::(30,.kmap false false (sentE (s.sm 13)))::(31,.kmap false false (sentE (s.sm 14)))::(32,.kmap false false (sentE (s.sm 15)))::(8,.cells [.v (.slice none 0 0),ii 0,.v (.slice none 0 0)] 25)::(6,.pin plp)::(2,.rwin 10 x.rs.length (x.rs.flatMap Rul.vals))::[])) 39 ⟨⟨rfl,(show 2<39 by decide)⟩,⟨rfl,(show 35<39 by decide)⟩,⟨rfl,(show 36<39 by decide)⟩,⟨rfl,(show 8<39 by decide)⟩,⟨rfl,(show 9<39 by decide)⟩,⟨rfl,(show 34<39 by decide)⟩,⟨rfl,trivial⟩,⟨rfl,trivial⟩,⟨rfl,trivial⟩,⟨rfl,(show 37<39 by decide)⟩,⟨rfl,(show 38<39 by decide)⟩,trivial⟩ ⟨⟨rfl,by omega,scs_i _ _⟩,⟨rfl,by omega,scs_i _ _⟩,⟨rfl,by omega,scs_evts _ _⟩,⟨rfl,by omega,trivial⟩,⟨rfl,by omega,trivial⟩,⟨rfl,by omega,by simp [SObj.sc,SV.scs,SV.sc]⟩,⟨rfl,by omega,scs_v _ _⟩,⟨rfl,by omega,scs_v _ _⟩,⟨rfl,by omega,scs_st _ _⟩,⟨rfl,by omega,scs_v _ _⟩,⟨rfl,by omega,scs_v _ _⟩,⟨rfl,by omega,scs_marks _ _⟩,⟨rfl,by omega,trivial⟩,⟨rfl,by omega,trivial⟩,⟨rfl,by omega,trivial⟩,⟨rfl,by omega,trivial⟩,⟨rfl,by omega,trivial⟩,⟨rfl,by omega,trivial⟩,⟨rfl,by omega,trivial⟩,⟨rfl,by omega,trivial⟩,⟨rfl,by omega,trivial⟩,⟨rfl,by omega,trivial⟩,⟨rfl,by omega,trivial⟩,⟨rfl,by omega,trivial⟩,⟨rfl,by omega,trivial⟩,⟨rfl,by omega,trivial⟩,⟨rfl,by omega,trivial⟩,⟨rfl,by omega,trivial⟩,⟨rfl,by omega,trivial⟩,⟨rfl,by omega,by simp [SObj.sc,SV.scs,SV.sc]⟩,⟨rfl,by omega,fun p hp=>Nat.lt_of_lt_of_le (hcov.1 p hp) (show 6≤39 by decide)⟩,⟨rfl,by omega,trivial⟩,trivial⟩ (fun p hp=>by have:=hLB p hp; omega) tail
      ·have h0:(Y.drop (nPz ((i:Nat):Int) Y)).length=0:=by rw [List.length_drop]; omega
       rw [decide_eq_false (show ¬ (0:Int)<((Y.drop (nPz ((i:Nat):Int) Y)).length:Int) by omega)]
       conv=>whnf
       exact Run.trim (T':=[(1,.opq 2),(3,.opq 35),(4,.opq 36),(13,.ptr 8 0),(15,.ptr 9 0),(20,.opq 34),(60,ii (K:Int)),(61,ii ((i:Nat):Int)),(21,ii ((i:Nat):Int)),(22,.opq 37),(23,.opq 38)]) (M':=((38,.row 1 x.rs.length ((rwY x.rs.length Y (nPz ((i:Nat):Int) Y)).map fun x=>ii x) 3)::(37,.row 1 (idsT X (nAt ((i:Nat):Int) X)).length ((idsT X (nAt ((i:Nat):Int) X)).map fun x=>ii x) 3)::(34,.row 2 O.length (O.flatMap Evt.cells) 62)::(35,.rwin 2 (X.drop (nAt ((i:Nat):Int) X)).length ((X.drop (nAt ((i:Nat):Int) X)).flatMap Evt.vals))::(36,.rwin 3 (Y.drop (nPz ((i:Nat):Int) Y)).length ((Y.drop (nPz ((i:Nat):Int) Y)).flatMap Prz.vals))::(9,.cells [ii ((i:Nat):Int),.opq 10,ii x.n.inp,.opq 11,.opq 12,.mp 17,.mp 18,.mp 19,.mp 20,.mp 21,.mp 22,.mp 23,.mp 24,.mp 25,.mp 26,.mp 27,.mp 28,.mp 29,.mp 30,.mp 31,.mp 32,.opq 13,.opq 14,.opq 15,.mp 16] 96)::(10,.row 8 x.n.N.length ((x.n.N.flatMap Prm.vals).map .v) 60)::(11,.row 4 x.n.S.length ((x.n.S.flatMap Syn.vals).map .v) 55)::(12,.row 2 x.n.N.length (s.st.flatMap Ste.cells) 139)::(13,.row 10 x.rs.length ((x.rs.flatMap Rul.vals).map .v) 36)::(14,.row 1 x.pl.length ((ints x.pl).map .v) 3)::(15,.row 4 x.pl.length (s.m.flatMap Mrk.cells) 84)::(16,.kmap true true x.tot)::(17,.kmap false false (sentE (s.sm 0)))::(18,.kmap false false (sentE (s.sm 1)))::(19,.kmap false false (sentE (s.sm 2)))::(20,.kmap false false (sentE (s.sm 3)))::(21,.kmap false false (sentE (s.sm 4)))::(22,.kmap false false (sentE (s.sm 5)))::(23,.kmap false false (sentE (s.sm 6)))::(24,.kmap false false (sentE (s.sm 7)))::(25,.kmap false false (sentE (s.sm 8)))::(26,.kmap false false (sentE (s.sm 9)))::(27,.kmap false false (sentE (s.sm 10)))::(28,.kmap false false (sentE (s.sm 11)))::(29,.kmap false false (sentE (s.sm 12)))::(30,.kmap false false (sentE (s.sm 13)))::(31,.kmap false false (sentE (s.sm 14)))::(32,.kmap false false (sentE (s.sm 15)))::(8,.cells [.v (.slice none 0 0),ii 0,.v (.slice none 0 0)] 25)::(6,.pin plp)::(2,.rwin 10 x.rs.length (x.rs.flatMap Rul.vals))::[])) 39 ⟨⟨rfl,(show 2<39 by decide)⟩,⟨rfl,(show 35<39 by decide)⟩,⟨rfl,(show 36<39 by decide)⟩,⟨rfl,(show 8<39 by decide)⟩,⟨rfl,(show 9<39 by decide)⟩,⟨rfl,(show 34<39 by decide)⟩,⟨rfl,trivial⟩,⟨rfl,trivial⟩,⟨rfl,trivial⟩,⟨rfl,(show 37<39 by decide)⟩,⟨rfl,(show 38<39 by decide)⟩,trivial⟩ ⟨⟨rfl,by omega,scs_i _ _⟩,⟨rfl,by omega,scs_i _ _⟩,⟨rfl,by omega,scs_evts _ _⟩,⟨rfl,by omega,trivial⟩,⟨rfl,by omega,trivial⟩,⟨rfl,by omega,by simp [SObj.sc,SV.scs,SV.sc]⟩,⟨rfl,by omega,scs_v _ _⟩,⟨rfl,by omega,scs_v _ _⟩,⟨rfl,by omega,scs_st _ _⟩,⟨rfl,by omega,scs_v _ _⟩,⟨rfl,by omega,scs_v _ _⟩,⟨rfl,by omega,scs_marks _ _⟩,⟨rfl,by omega,trivial⟩,⟨rfl,by omega,trivial⟩,⟨rfl,by omega,trivial⟩,⟨rfl,by omega,trivial⟩,⟨rfl,by omega,trivial⟩,⟨rfl,by omega,trivial⟩,⟨rfl,by omega,trivial⟩,⟨rfl,by omega,trivial⟩,⟨rfl,by omega,trivial⟩,⟨rfl,by omega,trivial⟩,⟨rfl,by omega,trivial⟩,⟨rfl,by omega,trivial⟩,⟨rfl,by omega,trivial⟩,⟨rfl,by omega,trivial⟩,⟨rfl,by omega,trivial⟩,⟨rfl,by omega,trivial⟩,⟨rfl,by omega,trivial⟩,⟨rfl,by omega,by simp [SObj.sc,SV.scs,SV.sc]⟩,⟨rfl,by omega,fun p hp=>Nat.lt_of_lt_of_le (hcov.1 p hp) (show 6≤39 by decide)⟩,⟨rfl,by omega,trivial⟩,trivial⟩ (fun p hp=>by have:=hLB p hp; omega) tail
     ·refine Run.of_wpK (hc w L0 none (fun _ h=>by cases h)) 1000 _ ?_
      conv=>whnf
      have hstep:=lstep_spec hx hinv (by rw [hst]; omega) (idsT X (nAt ((i:Nat):Int) X)) (rwY x.rs.length Y (nPz ((i:Nat):Int) Y)) (by rw [idsT_len hnl]; omega) (rwY_len ..)
      unfold lM lC at hstep
      rw [hst,rwY_len,show W (((i:Nat):Int)+1)=((i+1:Nat):Int) from wrap_succ (by omega)] at hstep
      obtain ⟨k,hk⟩ : ∃ k,slotN ((i:Nat):Int)=k:=⟨_,rfl⟩
      have hk16:k<16:=hk▸slotN_lt
      rw [hk] at hstep
      have es:trS x l p (i+1)=lN x s (idsT X (nAt ((i:Nat):Int) X)) (rwY x.rs.length Y (nPz ((i:Nat):Int) Y)):=by
       show lN x (trS x l p i) (trIn l i) (trRw x.rs.length p i)=_
       unfold trIn trRw
       rw [hX,hY,hs]
      have eO:trO x l p (i+1)=O++spk ((i:Nat):Int) ((lOut x s).take (lOut x s).length):=by
       show trO x l p i++spk i (lOut x (trS x l p i))=_
       rw [hO,hs,List.take_length]
      have hev:evR l (i+1)=X.drop (nAt ((i:Nat):Int) X):=by show (evR l i).drop (nAt i (evR l i))=_; rw [hX]
      have hpev:pzR p (i+1)=Y.drop (nPz ((i:Nat):Int) Y):=by show (pzR p i).drop (nPz i (pzR p i))=_; rw [hY]
      obtain ⟨s2,hs2⟩ : ∃ s2,trS x l p (i+1)=s2:=⟨_,rfl⟩
      obtain ⟨S2,hS2⟩ : ∃ S2,sendL (lB x s).2.2 (idsT X (nAt ((i:Nat):Int) X))=S2:=⟨_,rfl⟩
      have hsst:(lB x s).1=s2.st:=by rw [← hs2,es]; rfl
      have hsmm:lR x s (rwY x.rs.length Y (nPz ((i:Nat):Int) Y))=s2.m:=by rw [← hs2,es]; rfl
      have hssm : ∀ j,s2.sm j=if j=k then S2 else s.sm j:=fun j=>by
       rw [← hs2,es]
       show (if j=slotN s.tick then sendL (lB x s).2.2 (idsT X (nAt ((i:Nat):Int) X)) else s.sm j)=_
       rw [hst,hk,hS2]
      have hol0:=lOut_len x s
      obtain ⟨o,ho⟩ : ∃ o,lOut x s=o:=⟨_,rfl⟩
      have hOl:O.length≤65536:=by
       rw [← hO]
       exact Nat.le_trans (trO_len x l p i) (Nat.le_trans (Nat.mul_le_mul_right _ (by omega)) hK)
      rw [hsst,hsmm,ho,hS2] at hstep
      rw [ho] at hol0 eO
      have hisn : ∀ k:Nat,(k≠9∧k≠12∧k≠15) → ∀ q∈([0,3,6]:List Nat),(fun q=>if q<24 then 9+q else 13+q) q≠k:=by
       intro k hk q hq
       have hq2:q=0∨q=3∨q=6:=by simpa using hq
       show (if q<24 then 9+q else 13+q)≠k
       rw [if_pos (by omega)]; omega
      refine Run.callR (vs:=[.ptr 0 0,.opq 24,.opq 25]) (caps:=[]) (caps2:=[]) hstep (ent _ _ Try.func52 (by kernel_rfl) rfl) rfl rfl rfl rfl rfl rfl [.ptr 9 0,.opq 37,.opq 38] rfl (fun q=>if q<24 then 9+q else 13+q) rfl (fun q hq=>by show (if q<24 then 9+q else 13+q)<39; split <;> omega) (fun q hq j hj hne=>by show (if q<24 then 9+q else 13+q)≠(if j<24 then 9+j else 13+j); split <;> split <;> omega) (by decide)
       ⟨⟨by omega,by simp [lcells,SObj.sc,SV.scs,SV.sc],⟨_,rfl,Conv.refl _⟩,.inr (by simp),fun h=>by cases h⟩,⟨by omega,trivial,⟨_,rfl,Conv.row (by decide) rfl⟩,.inl rfl,fun _=>by simp⟩,⟨by omega,trivial,⟨_,rfl,Conv.row (by decide) rfl⟩,.inl rfl,fun _=>by simp⟩,⟨by omega,scs_st _ _,⟨_,rfl,by rw [oren_fix (S:=fun _=>False) (fun i hi=>hi.elim) (o := .row 2 x.n.N.length (s.st.flatMap Ste.cells) 139) (scs_st _ _)]; exact Conv.refl _⟩,.inr (by simp),fun h=>by cases h⟩,⟨by omega,trivial,⟨_,rfl,Conv.row (by decide) rfl⟩,.inl rfl,fun _=>by simp⟩,⟨by omega,trivial,⟨_,rfl,Conv.row (by decide) rfl⟩,.inl rfl,fun _=>by simp⟩,⟨by omega,scs_marks _ _,⟨_,rfl,by rw [oren_fix (S:=fun _=>False) (fun i hi=>hi.elim) (o := .row 4 x.pl.length (s.m.flatMap Mrk.cells) 84) (scs_marks _ _)]; exact Conv.refl _⟩,.inr (by simp),fun h=>by cases h⟩,⟨by omega,trivial,⟨_,rfl,Conv.map⟩,.inl rfl,fun _=>by simp⟩,⟨by omega,trivial,⟨_,rfl,Conv.map⟩,.inl rfl,fun _=>by simp⟩,⟨by omega,trivial,⟨_,rfl,Conv.map⟩,.inl rfl,fun _=>by simp⟩,⟨by omega,trivial,⟨_,rfl,Conv.map⟩,.inl rfl,fun _=>by simp⟩,⟨by omega,trivial,⟨_,rfl,Conv.map⟩,.inl rfl,fun _=>by simp⟩,⟨by omega,trivial,⟨_,rfl,Conv.map⟩,.inl rfl,fun _=>by simp⟩,⟨by omega,trivial,⟨_,rfl,Conv.map⟩,.inl rfl,fun _=>by simp⟩,⟨by omega,trivial,⟨_,rfl,Conv.map⟩,.inl rfl,fun _=>by simp⟩,⟨by omega,trivial,⟨_,rfl,Conv.map⟩,.inl rfl,fun _=>by simp⟩,⟨by omega,trivial,⟨_,rfl,Conv.map⟩,.inl rfl,fun _=>by simp⟩,⟨by omega,trivial,⟨_,rfl,Conv.map⟩,.inl rfl,fun _=>by simp⟩,⟨by omega,trivial,⟨_,rfl,Conv.map⟩,.inl rfl,fun _=>by simp⟩,⟨by omega,trivial,⟨_,rfl,Conv.map⟩,.inl rfl,fun _=>by simp⟩,⟨by omega,trivial,⟨_,rfl,Conv.map⟩,.inl rfl,fun _=>by simp⟩,⟨by omega,trivial,⟨_,rfl,Conv.map⟩,.inl rfl,fun _=>by simp⟩,⟨by omega,trivial,⟨_,rfl,Conv.map⟩,.inl rfl,fun _=>by simp⟩,⟨by omega,trivial,⟨_,rfl,Conv.map⟩,.inl rfl,fun _=>by simp⟩,⟨by omega,trivial,⟨_,rfl,Conv.row (by decide) (ints_iv _)⟩,.inl rfl,fun _=>by simp⟩,⟨by omega,trivial,⟨_,rfl,Conv.row (by decide) (ints_iv _)⟩,.inl rfl,fun _=>by simp⟩,trivial⟩ (fun q hq=>by
        have hq2:q=0∨q=3∨q=6:=by simpa using hq
        rcases hq2 with rfl | rfl | rfl <;> exact ⟨by omega,_,rfl⟩) (.opq 40) ((39,.kmap false true (sentE S2))::(40,.row 1 o.length (o.map fun x=>ii x) 3)::(34,.row 2 O.length (O.flatMap Evt.cells) 62)::(35,.rwin 2 (X.drop (nAt ((i:Nat):Int) X)).length ((X.drop (nAt ((i:Nat):Int) X)).flatMap Evt.vals))::(36,.rwin 3 (Y.drop (nPz ((i:Nat):Int) Y)).length ((Y.drop (nPz ((i:Nat):Int) Y)).flatMap Prz.vals))::(9,(SObj.cells (lcells (ii ((i+1:Nat):Int)) x.n.inp (fun j => .mp (if j=k then 26 else 8+j)) (.mp 7)) 96).ren (shR (fun q=>if q<24 then 9+q else 13+q) 26 39))::(10,.row 8 x.n.N.length ((x.n.N.flatMap Prm.vals).map .v) 60)::(11,.row 4 x.n.S.length ((x.n.S.flatMap Syn.vals).map .v) 55)::(12,(.row 2 x.n.N.length (s2.st.flatMap Ste.cells) 139))::(13,.row 10 x.rs.length ((x.rs.flatMap Rul.vals).map .v) 36)::(14,.row 1 x.pl.length ((ints x.pl).map .v) 3)::(15,(.row 4 x.pl.length (s2.m.flatMap Mrk.cells) 84))::(16,.kmap true true x.tot)::(17,.kmap false false (sentE (s.sm 0)))::(18,.kmap false false (sentE (s.sm 1)))::(19,.kmap false false (sentE (s.sm 2)))::(20,.kmap false false (sentE (s.sm 3)))::(21,.kmap false false (sentE (s.sm 4)))::(22,.kmap false false (sentE (s.sm 5)))::(23,.kmap false false (sentE (s.sm 6)))::(24,.kmap false false (sentE (s.sm 7)))::(25,.kmap false false (sentE (s.sm 8)))::(26,.kmap false false (sentE (s.sm 9)))::(27,.kmap false false (sentE (s.sm 10)))::(28,.kmap false false (sentE (s.sm 11)))::(29,.kmap false false (sentE (s.sm 12)))::(30,.kmap false false (sentE (s.sm 13)))::(31,.kmap false false (sentE (s.sm 14)))::(32,.kmap false false (sentE (s.sm 15)))::(8,.cells [.v (.slice none 0 0),ii 0,.v (.slice none 0 0)] 25)::(6,.pin plp)::(2,.rwin 10 x.rs.length (x.rs.flatMap Rul.vals))::[]) 41 rfl rfl
       ⟨.inr ⟨26,_,rfl,rfl,rfl,rfl⟩,.inr ⟨27,_,rfl,rfl,by rw [oren_fix (S:=fun _=>False) (fun i hi=>hi.elim) (o := .row 1 o.length (o.map fun x=>ii x) 3) (scs_i _ _)],rfl⟩,.inl ⟨rfl,hisn 34 (by decide)⟩,.inl ⟨rfl,hisn 35 (by decide)⟩,.inl ⟨rfl,hisn 36 (by decide)⟩,.inr ⟨0,_,rfl,rfl,rfl,rfl⟩,.inl ⟨rfl,hisn 10 (by decide)⟩,.inl ⟨rfl,hisn 11 (by decide)⟩,.inr ⟨3,_,rfl,rfl,by rw [oren_fix (S:=fun _=>False) (fun i hi=>hi.elim) (o:=(.row 2 x.n.N.length (s2.st.flatMap Ste.cells) 139)) (scs_st _ _)],rfl⟩,.inl ⟨rfl,hisn 13 (by decide)⟩,.inl ⟨rfl,hisn 14 (by decide)⟩,.inr ⟨6,_,rfl,rfl,by rw [oren_fix (S:=fun _=>False) (fun i hi=>hi.elim) (o:=(.row 4 x.pl.length (s2.m.flatMap Mrk.cells) 84)) (scs_marks _ _)],rfl⟩,.inl ⟨rfl,hisn 16 (by decide)⟩,.inl ⟨rfl,hisn 17 (by decide)⟩,.inl ⟨rfl,hisn 18 (by decide)⟩,.inl ⟨rfl,hisn 19 (by decide)⟩,.inl ⟨rfl,hisn 20 (by decide)⟩,.inl ⟨rfl,hisn 21 (by decide)⟩,.inl ⟨rfl,hisn 22 (by decide)⟩,.inl ⟨rfl,hisn 23 (by decide)⟩,.inl ⟨rfl,hisn 24 (by decide)⟩,.inl ⟨rfl,hisn 25 (by decide)⟩,.inl ⟨rfl,hisn 26 (by decide)⟩,.inl ⟨rfl,hisn 27 (by decide)⟩,.inl ⟨rfl,hisn 28 (by decide)⟩,.inl ⟨rfl,hisn 29 (by decide)⟩,.inl ⟨rfl,hisn 30 (by decide)⟩,.inl ⟨rfl,hisn 31 (by decide)⟩,.inl ⟨rfl,hisn 32 (by decide)⟩,.inl ⟨rfl,hisn 8 (by decide)⟩,.inl ⟨rfl,hisn 6 (by decide)⟩,.inl ⟨rfl,hisn 2 (by decide)⟩,trivial⟩ ?_
      refine Run.weak (M':=((39,.kmap false false (sentE S2))::(40,.row 1 o.length (o.map fun x=>ii x) 3)::(34,.row 2 O.length (O.flatMap Evt.cells) 62)::(35,.rwin 2 (X.drop (nAt ((i:Nat):Int) X)).length ((X.drop (nAt ((i:Nat):Int) X)).flatMap Evt.vals))::(36,.rwin 3 (Y.drop (nPz ((i:Nat):Int) Y)).length ((Y.drop (nPz ((i:Nat):Int) Y)).flatMap Prz.vals))::(9,(SObj.cells (lcells (ii ((i+1:Nat):Int)) x.n.inp (fun j => .mp (if j=k then 26 else 8+j)) (.mp 7)) 96).ren (shR (fun q=>if q<24 then 9+q else 13+q) 26 39))::(10,.row 8 x.n.N.length ((x.n.N.flatMap Prm.vals).map .v) 60)::(11,.row 4 x.n.S.length ((x.n.S.flatMap Syn.vals).map .v) 55)::(12,(.row 2 x.n.N.length (s2.st.flatMap Ste.cells) 139))::(13,.row 10 x.rs.length ((x.rs.flatMap Rul.vals).map .v) 36)::(14,.row 1 x.pl.length ((ints x.pl).map .v) 3)::(15,(.row 4 x.pl.length (s2.m.flatMap Mrk.cells) 84))::(16,.kmap true true x.tot)::(17,.kmap false false (sentE (s.sm 0)))::(18,.kmap false false (sentE (s.sm 1)))::(19,.kmap false false (sentE (s.sm 2)))::(20,.kmap false false (sentE (s.sm 3)))::(21,.kmap false false (sentE (s.sm 4)))::(22,.kmap false false (sentE (s.sm 5)))::(23,.kmap false false (sentE (s.sm 6)))::(24,.kmap false false (sentE (s.sm 7)))::(25,.kmap false false (sentE (s.sm 8)))::(26,.kmap false false (sentE (s.sm 9)))::(27,.kmap false false (sentE (s.sm 10)))::(28,.kmap false false (sentE (s.sm 11)))::(29,.kmap false false (sentE (s.sm 12)))::(30,.kmap false false (sentE (s.sm 13)))::(31,.kmap false false (sentE (s.sm 14)))::(32,.kmap false false (sentE (s.sm 15)))::(8,.cells [.v (.slice none 0 0),ii 0,.v (.slice none 0 0)] 25)::(6,.pin plp)::(2,.rwin 10 x.rs.length (x.rs.flatMap Rul.vals))::[])) ⟨⟨_,rfl,.inr ⟨_,_,rfl,rfl⟩⟩,⟨_,rfl,.inl rfl⟩,⟨_,rfl,.inl rfl⟩,⟨_,rfl,.inl rfl⟩,⟨_,rfl,.inl rfl⟩,⟨_,rfl,.inl rfl⟩,⟨_,rfl,.inl rfl⟩,⟨_,rfl,.inl rfl⟩,⟨_,rfl,.inl rfl⟩,⟨_,rfl,.inl rfl⟩,⟨_,rfl,.inl rfl⟩,⟨_,rfl,.inl rfl⟩,⟨_,rfl,.inl rfl⟩,⟨_,rfl,.inl rfl⟩,⟨_,rfl,.inl rfl⟩,⟨_,rfl,.inl rfl⟩,⟨_,rfl,.inl rfl⟩,⟨_,rfl,.inl rfl⟩,⟨_,rfl,.inl rfl⟩,⟨_,rfl,.inl rfl⟩,⟨_,rfl,.inl rfl⟩,⟨_,rfl,.inl rfl⟩,⟨_,rfl,.inl rfl⟩,⟨_,rfl,.inl rfl⟩,⟨_,rfl,.inl rfl⟩,⟨_,rfl,.inl rfl⟩,⟨_,rfl,.inl rfl⟩,⟨_,rfl,.inl rfl⟩,⟨_,rfl,.inl rfl⟩,⟨_,rfl,.inl rfl⟩,⟨_,rfl,.inl rfl⟩,⟨_,rfl,.inl rfl⟩,trivial⟩ ?_
      refine Run.trimQ (T':=[(1,.opq 2),(3,.opq 35),(4,.opq 36),(13,.ptr 8 0),(15,.ptr 9 0),(20,.opq 34),(60,ii (K:Int)),(61,ii ((i:Nat):Int)),(21,ii ((i:Nat):Int)),(113,.opq 40)]) (M':=((40,.row 1 o.length (o.map fun x=>ii x) 3)::(34,.row 2 O.length (O.flatMap Evt.cells) 62)::(35,.rwin 2 (X.drop (nAt ((i:Nat):Int) X)).length ((X.drop (nAt ((i:Nat):Int) X)).flatMap Evt.vals))::(36,.rwin 3 (Y.drop (nPz ((i:Nat):Int) Y)).length ((Y.drop (nPz ((i:Nat):Int) Y)).flatMap Prz.vals))::(9,.cells [ii ((i+1:Nat):Int),.opq 10,ii x.n.inp,.opq 11,.opq 12,.mp 17,.mp 18,.mp 19,.mp 20,.mp 21,.mp 22,.mp 23,.mp 24,.mp 25,.mp 26,.mp 27,.mp 28,.mp 29,.mp 30,.mp 31,.mp 32,.opq 13,.opq 14,.opq 15,.mp 16] 96)::(10,.row 8 x.n.N.length ((x.n.N.flatMap Prm.vals).map .v) 60)::(11,.row 4 x.n.S.length ((x.n.S.flatMap Syn.vals).map .v) 55)::(12,.row 2 x.n.N.length (s2.st.flatMap Ste.cells) 139)::(13,.row 10 x.rs.length ((x.rs.flatMap Rul.vals).map .v) 36)::(14,.row 1 x.pl.length ((ints x.pl).map .v) 3)::(15,.row 4 x.pl.length (s2.m.flatMap Mrk.cells) 84)::(16,.kmap true true x.tot)::(17,.kmap false false (sentE (s2.sm 0)))::(18,.kmap false false (sentE (s2.sm 1)))::(19,.kmap false false (sentE (s2.sm 2)))::(20,.kmap false false (sentE (s2.sm 3)))::(21,.kmap false false (sentE (s2.sm 4)))::(22,.kmap false false (sentE (s2.sm 5)))::(23,.kmap false false (sentE (s2.sm 6)))::(24,.kmap false false (sentE (s2.sm 7)))::(25,.kmap false false (sentE (s2.sm 8)))::(26,.kmap false false (sentE (s2.sm 9)))::(27,.kmap false false (sentE (s2.sm 10)))::(28,.kmap false false (sentE (s2.sm 11)))::(29,.kmap false false (sentE (s2.sm 12)))::(30,.kmap false false (sentE (s2.sm 13)))::(31,.kmap false false (sentE (s2.sm 14)))::(32,.kmap false false (sentE (s2.sm 15)))::(8,.cells [.v (.slice none 0 0),ii 0,.v (.slice none 0 0)] 25)::(6,.pin plp)::(2,.rwin 10 x.rs.length (x.rs.flatMap Rul.vals))::[])) (rq [(17+k,39),(39,17+k)]) 41 ?_ ?_ ?_ ?_ ?_
      ·intro q hq j hj hne he
       have inv : ∀ q,q<41→rq [(17+k,39),(39,17+k)] (rq [(17+k,39),(39,17+k)] q)=q:=by rcases lt16 hk16 with rfl | rfl | rfl | rfl | rfl | rfl | rfl | rfl | rfl | rfl | rfl | rfl | rfl | rfl | rfl | rfl <;> decide
       exact hne (by rw [← inv q hq,he,inv j hj])
      ·rcases lt16 hk16 with rfl | rfl | rfl | rfl | rfl | rfl | rfl | rfl | rfl | rfl | rfl | rfl | rfl | rfl | rfl | rfl <;> exact ⟨⟨rfl,(show 2<41 by decide)⟩,⟨rfl,(show 35<41 by decide)⟩,⟨rfl,(show 36<41 by decide)⟩,⟨rfl,(show 8<41 by decide)⟩,⟨rfl,(show 9<41 by decide)⟩,⟨rfl,(show 34<41 by decide)⟩,⟨rfl,trivial⟩,⟨rfl,trivial⟩,⟨rfl,trivial⟩,⟨rfl,(show 40<41 by decide)⟩,trivial⟩
      ·rcases lt16 hk16 with rfl | rfl | rfl | rfl | rfl | rfl | rfl | rfl | rfl | rfl | rfl | rfl | rfl | rfl | rfl | rfl <;> exact ⟨⟨congrArg some (oren_fix (S:=fun _=>False) (fun i hi=>hi.elim) (o := .row 1 o.length (o.map fun x=>ii x) 3) (scs_i _ _)).symm,by omega,scs_i _ _⟩,⟨congrArg some (oren_fix (S:=fun _=>False) (fun i hi=>hi.elim) (o := .row 2 O.length (O.flatMap Evt.cells) 62) (scs_evts _ _)).symm,by omega,scs_evts _ _⟩,⟨rfl,by omega,trivial⟩,⟨rfl,by omega,trivial⟩,⟨rfl,by omega,by simp [SObj.sc,SV.scs,SV.sc]⟩,⟨congrArg some (oren_fix (S:=fun _=>False) (fun i hi=>hi.elim) (o := .row 8 x.n.N.length ((x.n.N.flatMap Prm.vals).map .v) 60) (scs_v _ _)).symm,by omega,scs_v _ _⟩,⟨congrArg some (oren_fix (S:=fun _=>False) (fun i hi=>hi.elim) (o := .row 4 x.n.S.length ((x.n.S.flatMap Syn.vals).map .v) 55) (scs_v _ _)).symm,by omega,scs_v _ _⟩,⟨congrArg some (oren_fix (S:=fun _=>False) (fun i hi=>hi.elim) (o := .row 2 x.n.N.length (s2.st.flatMap Ste.cells) 139) (scs_st _ _)).symm,by omega,scs_st _ _⟩,⟨congrArg some (oren_fix (S:=fun _=>False) (fun i hi=>hi.elim) (o := .row 10 x.rs.length ((x.rs.flatMap Rul.vals).map .v) 36) (scs_v _ _)).symm,by omega,scs_v _ _⟩,⟨congrArg some (oren_fix (S:=fun _=>False) (fun i hi=>hi.elim) (o := .row 1 x.pl.length ((ints x.pl).map .v) 3) (scs_v _ _)).symm,by omega,scs_v _ _⟩,⟨congrArg some (oren_fix (S:=fun _=>False) (fun i hi=>hi.elim) (o := .row 4 x.pl.length (s2.m.flatMap Mrk.cells) 84) (scs_marks _ _)).symm,by omega,scs_marks _ _⟩,⟨rfl,by omega,trivial⟩,⟨by rw [hssm]; rfl,by omega,trivial⟩,⟨by rw [hssm]; rfl,by omega,trivial⟩,⟨by rw [hssm]; rfl,by omega,trivial⟩,⟨by rw [hssm]; rfl,by omega,trivial⟩,⟨by rw [hssm]; rfl,by omega,trivial⟩,⟨by rw [hssm]; rfl,by omega,trivial⟩,⟨by rw [hssm]; rfl,by omega,trivial⟩,⟨by rw [hssm]; rfl,by omega,trivial⟩,⟨by rw [hssm]; rfl,by omega,trivial⟩,⟨by rw [hssm]; rfl,by omega,trivial⟩,⟨by rw [hssm]; rfl,by omega,trivial⟩,⟨by rw [hssm]; rfl,by omega,trivial⟩,⟨by rw [hssm]; rfl,by omega,trivial⟩,⟨by rw [hssm]; rfl,by omega,trivial⟩,⟨by rw [hssm]; rfl,by omega,trivial⟩,⟨by rw [hssm]; rfl,by omega,trivial⟩,⟨rfl,by omega,by simp [SObj.sc,SV.scs,SV.sc]⟩,⟨congrArg some (pin_fix hcov (fun i hi=>rq_fix (rq_noneB (B:=6) rfl hi))).symm,by omega,fun p hp=>Nat.lt_of_lt_of_le (hcov.1 p hp) (show 6≤41 by decide)⟩,⟨rfl,by omega,trivial⟩,trivial⟩
      ·intro p hp
       have:=hLB p hp
       rcases lt16 hk16 with rfl | rfl | rfl | rfl | rfl | rfl | rfl | rfl | rfl | rfl | rfl | rfl | rfl | rfl | rfl | rfl <;> exact ⟨rq_fix (rq_noneB (B:=6) rfl this),by omega⟩
      refine Run.of_wpK (hc w L0 none (fun _ h=>by cases h)) 1000 _ ?_
      conv=>whnf
      refine Run.trim (T':=[(1,.opq 2),(3,.opq 35),(4,.opq 36),(13,.ptr 8 0),(15,.ptr 9 0),(20,.opq 34),(60,ii (K:Int)),(61,ii ((i:Nat):Int)),(21,ii ((i:Nat):Int)),(113,.opq 40),(114,ii (o.length:Int)),(115,ii ((0:Nat):Int))]) (M':=((40,.row 1 o.length (o.map fun x=>ii x) 3)::(34,.row 2 (O++spk ((i:Nat):Int) (o.take 0)).length ((O++spk ((i:Nat):Int) (o.take 0)).flatMap Evt.cells) 62)::(35,.rwin 2 (X.drop (nAt ((i:Nat):Int) X)).length ((X.drop (nAt ((i:Nat):Int) X)).flatMap Evt.vals))::(36,.rwin 3 (Y.drop (nPz ((i:Nat):Int) Y)).length ((Y.drop (nPz ((i:Nat):Int) Y)).flatMap Prz.vals))::(9,.cells [ii ((i+1:Nat):Int),.opq 10,ii x.n.inp,.opq 11,.opq 12,.mp 17,.mp 18,.mp 19,.mp 20,.mp 21,.mp 22,.mp 23,.mp 24,.mp 25,.mp 26,.mp 27,.mp 28,.mp 29,.mp 30,.mp 31,.mp 32,.opq 13,.opq 14,.opq 15,.mp 16] 96)::(10,.row 8 x.n.N.length ((x.n.N.flatMap Prm.vals).map .v) 60)::(11,.row 4 x.n.S.length ((x.n.S.flatMap Syn.vals).map .v) 55)::(12,.row 2 x.n.N.length (s2.st.flatMap Ste.cells) 139)::(13,.row 10 x.rs.length ((x.rs.flatMap Rul.vals).map .v) 36)::(14,.row 1 x.pl.length ((ints x.pl).map .v) 3)::(15,.row 4 x.pl.length (s2.m.flatMap Mrk.cells) 84)::(16,.kmap true true x.tot)::(17,.kmap false false (sentE (s2.sm 0)))::(18,.kmap false false (sentE (s2.sm 1)))::(19,.kmap false false (sentE (s2.sm 2)))::(20,.kmap false false (sentE (s2.sm 3)))::(21,.kmap false false (sentE (s2.sm 4)))::(22,.kmap false false (sentE (s2.sm 5)))::(23,.kmap false false (sentE (s2.sm 6)))::(24,.kmap false false (sentE (s2.sm 7)))::(25,.kmap false false (sentE (s2.sm 8)))::(26,.kmap false false (sentE (s2.sm 9)))::(27,.kmap false false (sentE (s2.sm 10)))::(28,.kmap false false (sentE (s2.sm 11)))::(29,.kmap false false (sentE (s2.sm 12)))::(30,.kmap false false (sentE (s2.sm 13)))::(31,.kmap false false (sentE (s2.sm 14)))::(32,.kmap false false (sentE (s2.sm 15)))::(8,.cells [.v (.slice none 0 0),ii 0,.v (.slice none 0 0)] 25)::(6,.pin plp)::(2,.rwin 10 x.rs.length (x.rs.flatMap Rul.vals))::[])) 41 ⟨⟨rfl,(show 2<41 by decide)⟩,⟨rfl,(show 35<41 by decide)⟩,⟨rfl,(show 36<41 by decide)⟩,⟨rfl,(show 8<41 by decide)⟩,⟨rfl,(show 9<41 by decide)⟩,⟨rfl,(show 34<41 by decide)⟩,⟨rfl,trivial⟩,⟨rfl,trivial⟩,⟨rfl,trivial⟩,⟨rfl,(show 40<41 by decide)⟩,⟨rfl,trivial⟩,⟨rfl,trivial⟩,trivial⟩ ⟨⟨rfl,by omega,scs_i _ _⟩,⟨by rw [show spk ((i:Nat):Int) (o.take 0)=[] from rfl,List.append_nil]; rfl,by omega,scs_evts _ _⟩,⟨rfl,by omega,trivial⟩,⟨rfl,by omega,trivial⟩,⟨rfl,by omega,by simp [SObj.sc,SV.scs,SV.sc]⟩,⟨rfl,by omega,scs_v _ _⟩,⟨rfl,by omega,scs_v _ _⟩,⟨rfl,by omega,scs_st _ _⟩,⟨rfl,by omega,scs_v _ _⟩,⟨rfl,by omega,scs_v _ _⟩,⟨rfl,by omega,scs_marks _ _⟩,⟨rfl,by omega,trivial⟩,⟨rfl,by omega,trivial⟩,⟨rfl,by omega,trivial⟩,⟨rfl,by omega,trivial⟩,⟨rfl,by omega,trivial⟩,⟨rfl,by omega,trivial⟩,⟨rfl,by omega,trivial⟩,⟨rfl,by omega,trivial⟩,⟨rfl,by omega,trivial⟩,⟨rfl,by omega,trivial⟩,⟨rfl,by omega,trivial⟩,⟨rfl,by omega,trivial⟩,⟨rfl,by omega,trivial⟩,⟨rfl,by omega,trivial⟩,⟨rfl,by omega,trivial⟩,⟨rfl,by omega,trivial⟩,⟨rfl,by omega,trivial⟩,⟨rfl,by omega,by simp [SObj.sc,SV.scs,SV.sc]⟩,⟨rfl,by omega,fun p hp=>Nat.lt_of_lt_of_le (hcov.1 p hp) (show 6≤41 by decide)⟩,⟨rfl,by omega,trivial⟩,trivial⟩ (fun p hp=>by have:=hLB p hp; omega) ?_
      refine Run.upToJ (T:=fun j=>[(1,.opq 2),(3,.opq 35),(4,.opq 36),(13,.ptr 8 0),(15,.ptr 9 0),(20,.opq 34),(60,ii (K:Int)),(61,ii ((i:Nat):Int)),(21,ii ((i:Nat):Int)),(113,.opq 40),(114,ii (o.length:Int)),(115,ii ((j:Nat):Int))]) (M:=fun j=>((40,.row 1 o.length (o.map fun x=>ii x) 3)::(34,.row 2 (O++spk ((i:Nat):Int) (o.take j)).length ((O++spk ((i:Nat):Int) (o.take j)).flatMap Evt.cells) 62)::(35,.rwin 2 (X.drop (nAt ((i:Nat):Int) X)).length ((X.drop (nAt ((i:Nat):Int) X)).flatMap Evt.vals))::(36,.rwin 3 (Y.drop (nPz ((i:Nat):Int) Y)).length ((Y.drop (nPz ((i:Nat):Int) Y)).flatMap Prz.vals))::(9,.cells [ii ((i+1:Nat):Int),.opq 10,ii x.n.inp,.opq 11,.opq 12,.mp 17,.mp 18,.mp 19,.mp 20,.mp 21,.mp 22,.mp 23,.mp 24,.mp 25,.mp 26,.mp 27,.mp 28,.mp 29,.mp 30,.mp 31,.mp 32,.opq 13,.opq 14,.opq 15,.mp 16] 96)::(10,.row 8 x.n.N.length ((x.n.N.flatMap Prm.vals).map .v) 60)::(11,.row 4 x.n.S.length ((x.n.S.flatMap Syn.vals).map .v) 55)::(12,.row 2 x.n.N.length (s2.st.flatMap Ste.cells) 139)::(13,.row 10 x.rs.length ((x.rs.flatMap Rul.vals).map .v) 36)::(14,.row 1 x.pl.length ((ints x.pl).map .v) 3)::(15,.row 4 x.pl.length (s2.m.flatMap Mrk.cells) 84)::(16,.kmap true true x.tot)::(17,.kmap false false (sentE (s2.sm 0)))::(18,.kmap false false (sentE (s2.sm 1)))::(19,.kmap false false (sentE (s2.sm 2)))::(20,.kmap false false (sentE (s2.sm 3)))::(21,.kmap false false (sentE (s2.sm 4)))::(22,.kmap false false (sentE (s2.sm 5)))::(23,.kmap false false (sentE (s2.sm 6)))::(24,.kmap false false (sentE (s2.sm 7)))::(25,.kmap false false (sentE (s2.sm 8)))::(26,.kmap false false (sentE (s2.sm 9)))::(27,.kmap false false (sentE (s2.sm 10)))::(28,.kmap false false (sentE (s2.sm 11)))::(29,.kmap false false (sentE (s2.sm 12)))::(30,.kmap false false (sentE (s2.sm 13)))::(31,.kmap false false (sentE (s2.sm 14)))::(32,.kmap false false (sentE (s2.sm 15)))::(8,.cells [.v (.slice none 0 0),ii 0,.v (.slice none 0 0)] 25)::(6,.pin plp)::(2,.rwin 10 x.rs.length (x.rs.flatMap Rul.vals))::[])) (fun _=>True) o.length trivial ?_ ?_
      ·intro j hj _ ih2
       have hol:(O++spk ((i:Nat):Int) (o.take j)).length≤131072:=by
        simp only [spk,List.length_append,List.length_map,List.length_take]
        omega
       refine Run.of_wpK (hc w L0 none (fun _ h=>by cases h)) 1000 _ ?_
       conv=>whnf
       rw [decide_eq_true (show ((j:Nat):Int)<(o.length:Int) by omega)]
       conv=>whnf
       refine ⟨by omega,?_⟩
       conv=>whnf
       rw [opF_loadRow1 j rfl rfl rfl rfl (by rw [idx_nat,Nat.mul_one]) hj]
       conv=>whnf
       refine ⟨by omega,?_⟩
       conv=>whnf
       refine Run.trimQ (T':=[(1,.opq 2),(3,.opq 35),(4,.opq 36),(13,.ptr 8 0),(15,.ptr 9 0),(20,.opq 34),(60,ii (K:Int)),(61,ii ((i:Nat):Int)),(21,ii ((i:Nat):Int)),(113,.opq 40),(114,ii (o.length:Int)),(115,ii ((j+1:Nat):Int))]) (M':=((40,.row 1 o.length (o.map fun x=>ii x) 3)::(34,.row 2 (O++spk ((i:Nat):Int) (o.take (j+1))).length ((O++spk ((i:Nat):Int) (o.take (j+1))).flatMap Evt.cells) 62)::(35,.rwin 2 (X.drop (nAt ((i:Nat):Int) X)).length ((X.drop (nAt ((i:Nat):Int) X)).flatMap Evt.vals))::(36,.rwin 3 (Y.drop (nPz ((i:Nat):Int) Y)).length ((Y.drop (nPz ((i:Nat):Int) Y)).flatMap Prz.vals))::(9,.cells [ii ((i+1:Nat):Int),.opq 10,ii x.n.inp,.opq 11,.opq 12,.mp 17,.mp 18,.mp 19,.mp 20,.mp 21,.mp 22,.mp 23,.mp 24,.mp 25,.mp 26,.mp 27,.mp 28,.mp 29,.mp 30,.mp 31,.mp 32,.opq 13,.opq 14,.opq 15,.mp 16] 96)::(10,.row 8 x.n.N.length ((x.n.N.flatMap Prm.vals).map .v) 60)::(11,.row 4 x.n.S.length ((x.n.S.flatMap Syn.vals).map .v) 55)::(12,.row 2 x.n.N.length (s2.st.flatMap Ste.cells) 139)::(13,.row 10 x.rs.length ((x.rs.flatMap Rul.vals).map .v) 36)::(14,.row 1 x.pl.length ((ints x.pl).map .v) 3)::(15,.row 4 x.pl.length (s2.m.flatMap Mrk.cells) 84)::(16,.kmap true true x.tot)::(17,.kmap false false (sentE (s2.sm 0)))::(18,.kmap false false (sentE (s2.sm 1)))::(19,.kmap false false (sentE (s2.sm 2)))::(20,.kmap false false (sentE (s2.sm 3)))::(21,.kmap false false (sentE (s2.sm 4)))::(22,.kmap false false (sentE (s2.sm 5)))::(23,.kmap false false (sentE (s2.sm 6)))::(24,.kmap false false (sentE (s2.sm 7)))::(25,.kmap false false (sentE (s2.sm 8)))::(26,.kmap false false (sentE (s2.sm 9)))::(27,.kmap false false (sentE (s2.sm 10)))::(28,.kmap false false (sentE (s2.sm 11)))::(29,.kmap false false (sentE (s2.sm 12)))::(30,.kmap false false (sentE (s2.sm 13)))::(31,.kmap false false (sentE (s2.sm 14)))::(32,.kmap false false (sentE (s2.sm 15)))::(8,.cells [.v (.slice none 0 0),ii 0,.v (.slice none 0 0)] 25)::(6,.pin plp)::(2,.rwin 10 x.rs.length (x.rs.flatMap Rul.vals))::[])) (rq [(34,42),(42,34)]) 41 ?_ ?_ ?_ ?_ (ih2 trivial)
       ·intro i hi j hj hne he
        have inv : ∀ i,i<41→rq [(34,42),(42,34)] (rq [(34,42),(42,34)] i)=i:=by decide
        exact hne (by rw [← inv i hi,he,inv j hj])
       ·exact ⟨⟨rfl,(show 2<41 by decide)⟩,⟨rfl,(show 35<41 by decide)⟩,⟨rfl,(show 36<41 by decide)⟩,⟨rfl,(show 8<41 by decide)⟩,⟨rfl,(show 9<41 by decide)⟩,⟨rfl,(show 34<41 by decide)⟩,⟨rfl,trivial⟩,⟨rfl,trivial⟩,⟨rfl,trivial⟩,⟨rfl,(show 40<41 by decide)⟩,⟨rfl,trivial⟩,⟨congrArg some (congrArg ii (wrap_succ (by omega))),trivial⟩,trivial⟩
       ·exact ⟨⟨congrArg some (oren_fix (S:=fun _=>False) (fun i hi=>hi.elim) (o := .row 1 o.length (o.map fun x=>ii x) 3) (scs_i _ _)).symm,by omega,scs_i _ _⟩,⟨by rw [oren_fix (S:=fun _=>False) (fun i hi=>hi.elim) (o := .row 2 (O++spk ((i:Nat):Int) (o.take (j+1))).length ((O++spk ((i:Nat):Int) (o.take (j+1))).flatMap Evt.cells) 62) (scs_evts _ _),spk_take hj,← List.append_assoc]; generalize O++spk _ (o.take j)=Z; rw [List.length_append,List.flatMap_append]; rfl,by omega,scs_evts _ _⟩,⟨rfl,by omega,trivial⟩,⟨rfl,by omega,trivial⟩,⟨rfl,by omega,by simp [SObj.sc,SV.scs,SV.sc]⟩,⟨congrArg some (oren_fix (S:=fun _=>False) (fun i hi=>hi.elim) (o := .row 8 x.n.N.length ((x.n.N.flatMap Prm.vals).map .v) 60) (scs_v _ _)).symm,by omega,scs_v _ _⟩,⟨congrArg some (oren_fix (S:=fun _=>False) (fun i hi=>hi.elim) (o := .row 4 x.n.S.length ((x.n.S.flatMap Syn.vals).map .v) 55) (scs_v _ _)).symm,by omega,scs_v _ _⟩,⟨congrArg some (oren_fix (S:=fun _=>False) (fun i hi=>hi.elim) (o := .row 2 x.n.N.length (s2.st.flatMap Ste.cells) 139) (scs_st _ _)).symm,by omega,scs_st _ _⟩,⟨congrArg some (oren_fix (S:=fun _=>False) (fun i hi=>hi.elim) (o := .row 10 x.rs.length ((x.rs.flatMap Rul.vals).map .v) 36) (scs_v _ _)).symm,by omega,scs_v _ _⟩,⟨congrArg some (oren_fix (S:=fun _=>False) (fun i hi=>hi.elim) (o := .row 1 x.pl.length ((ints x.pl).map .v) 3) (scs_v _ _)).symm,by omega,scs_v _ _⟩,⟨congrArg some (oren_fix (S:=fun _=>False) (fun i hi=>hi.elim) (o := .row 4 x.pl.length (s2.m.flatMap Mrk.cells) 84) (scs_marks _ _)).symm,by omega,scs_marks _ _⟩,⟨rfl,by omega,trivial⟩,⟨rfl,by omega,trivial⟩,⟨rfl,by omega,trivial⟩,⟨rfl,by omega,trivial⟩,⟨rfl,by omega,trivial⟩,⟨rfl,by omega,trivial⟩,⟨rfl,by omega,trivial⟩,⟨rfl,by omega,trivial⟩,⟨rfl,by omega,trivial⟩,⟨rfl,by omega,trivial⟩,⟨rfl,by omega,trivial⟩,⟨rfl,by omega,trivial⟩,⟨rfl,by omega,trivial⟩,⟨rfl,by omega,trivial⟩,⟨rfl,by omega,trivial⟩,⟨rfl,by omega,trivial⟩,⟨rfl,by omega,trivial⟩,⟨rfl,by omega,by simp [SObj.sc,SV.scs,SV.sc]⟩,⟨congrArg some (pin_fix hcov (fun i hi=>rq_fix (rq_noneB (B:=6) rfl hi))).symm,by omega,fun p hp=>Nat.lt_of_lt_of_le (hcov.1 p hp) (show 6≤41 by decide)⟩,⟨rfl,by omega,trivial⟩,trivial⟩
       ·intro p hp
        have:=hLB p hp; exact ⟨rq_fix (rq_noneB (B:=6) rfl this),by omega⟩
      ·intro _
       have hol:(O++spk ((i:Nat):Int) (o.take o.length)).length≤65536:=by
        rw [← eO]
        refine Nat.le_trans (trO_len x l p (i+1)) (Nat.le_trans (Nat.mul_le_mul_right _ (by omega)) hK)
       refine Run.of_wpK (hc w L0 none (fun _ h=>by cases h)) 1000 _ ?_
       conv=>whnf
       rw [decide_eq_false (show ¬ ((o.length:Nat):Int)<(o.length:Int) by omega)]
       conv=>whnf
       rw [decide_eq_false (show ¬ (65536:Int)<((O++spk ((i:Nat):Int) (o.take o.length)).length:Int) by omega)]
       conv=>whnf
       rw [eO,hev,hpev,hs2] at ih
       exact Run.trim (T':=[(1,.opq 2),(3,.opq 35),(4,.opq 36),(13,.ptr 8 0),(15,.ptr 9 0),(20,.opq 34),(60,ii (K:Int)),(61,ii ((i+1:Nat):Int))]) (M':=((34,.row 2 (O++spk ((i:Nat):Int) (o.take o.length)).length ((O++spk ((i:Nat):Int) (o.take o.length)).flatMap Evt.cells) 62)::(35,.rwin 2 (X.drop (nAt ((i:Nat):Int) X)).length ((X.drop (nAt ((i:Nat):Int) X)).flatMap Evt.vals))::(36,.rwin 3 (Y.drop (nPz ((i:Nat):Int) Y)).length ((Y.drop (nPz ((i:Nat):Int) Y)).flatMap Prz.vals))::(9,.cells [ii ((i+1:Nat):Int),.opq 10,ii x.n.inp,.opq 11,.opq 12,.mp 17,.mp 18,.mp 19,.mp 20,.mp 21,.mp 22,.mp 23,.mp 24,.mp 25,.mp 26,.mp 27,.mp 28,.mp 29,.mp 30,.mp 31,.mp 32,.opq 13,.opq 14,.opq 15,.mp 16] 96)::(10,.row 8 x.n.N.length ((x.n.N.flatMap Prm.vals).map .v) 60)::(11,.row 4 x.n.S.length ((x.n.S.flatMap Syn.vals).map .v) 55)::(12,.row 2 x.n.N.length (s2.st.flatMap Ste.cells) 139)::(13,.row 10 x.rs.length ((x.rs.flatMap Rul.vals).map .v) 36)::(14,.row 1 x.pl.length ((ints x.pl).map .v) 3)::(15,.row 4 x.pl.length (s2.m.flatMap Mrk.cells) 84)::(16,.kmap true true x.tot)::(17,.kmap false false (sentE (s2.sm 0)))::(18,.kmap false false (sentE (s2.sm 1)))::(19,.kmap false false (sentE (s2.sm 2)))::(20,.kmap false false (sentE (s2.sm 3)))::(21,.kmap false false (sentE (s2.sm 4)))::(22,.kmap false false (sentE (s2.sm 5)))::(23,.kmap false false (sentE (s2.sm 6)))::(24,.kmap false false (sentE (s2.sm 7)))::(25,.kmap false false (sentE (s2.sm 8)))::(26,.kmap false false (sentE (s2.sm 9)))::(27,.kmap false false (sentE (s2.sm 10)))::(28,.kmap false false (sentE (s2.sm 11)))::(29,.kmap false false (sentE (s2.sm 12)))::(30,.kmap false false (sentE (s2.sm 13)))::(31,.kmap false false (sentE (s2.sm 14)))::(32,.kmap false false (sentE (s2.sm 15)))::(8,.cells [.v (.slice none 0 0),ii 0,.v (.slice none 0 0)] 25)::(6,.pin plp)::(2,.rwin 10 x.rs.length (x.rs.flatMap Rul.vals))::[])) 37 ⟨⟨rfl,(show 2<37 by decide)⟩,⟨rfl,(show 35<37 by decide)⟩,⟨rfl,(show 36<37 by decide)⟩,⟨rfl,(show 8<37 by decide)⟩,⟨rfl,(show 9<37 by decide)⟩,⟨rfl,(show 34<37 by decide)⟩,⟨rfl,trivial⟩,⟨congrArg some (congrArg ii (wrap_succ (by omega))),trivial⟩,trivial⟩ ⟨⟨rfl,by omega,scs_evts _ _⟩,⟨rfl,by omega,trivial⟩,⟨rfl,by omega,trivial⟩,⟨rfl,by omega,by simp [SObj.sc,SV.scs,SV.sc]⟩,⟨rfl,by omega,scs_v _ _⟩,⟨rfl,by omega,scs_v _ _⟩,⟨rfl,by omega,scs_st _ _⟩,⟨rfl,by omega,scs_v _ _⟩,⟨rfl,by omega,scs_v _ _⟩,⟨rfl,by omega,scs_marks _ _⟩,⟨rfl,by omega,trivial⟩,⟨rfl,by omega,trivial⟩,⟨rfl,by omega,trivial⟩,⟨rfl,by omega,trivial⟩,⟨rfl,by omega,trivial⟩,⟨rfl,by omega,trivial⟩,⟨rfl,by omega,trivial⟩,⟨rfl,by omega,trivial⟩,⟨rfl,by omega,trivial⟩,⟨rfl,by omega,trivial⟩,⟨rfl,by omega,trivial⟩,⟨rfl,by omega,trivial⟩,⟨rfl,by omega,trivial⟩,⟨rfl,by omega,trivial⟩,⟨rfl,by omega,trivial⟩,⟨rfl,by omega,trivial⟩,⟨rfl,by omega,trivial⟩,⟨rfl,by omega,by simp [SObj.sc,SV.scs,SV.sc]⟩,⟨rfl,by omega,fun p hp=>Nat.lt_of_lt_of_le (hcov.1 p hp) (show 6≤37 by decide)⟩,⟨rfl,by omega,trivial⟩,trivial⟩ (fun p hp=>by have:=hLB p hp; omega) (ih trivial)


 ·intro _
  refine Run.of_wpK (hc w L0 none (fun _ h=>by cases h)) 1000 _ ?_
  conv=>whnf
  rw [decide_eq_false (show ¬ ((K:Nat):Int)<(K:Int) by omega)]
  conv=>whnf
  have hinvK:=trS_inv hx l p K hK2
  obtain ⟨sK,hsK⟩ : ∃ sK,trS x l p K=sK:=⟨_,rfl⟩
  rw [hsK] at hinvK ⊢
  have hmK:sK.m.length=x.pl.length:=by rw [hinvK.lm,hx4]
  have hnow:=now_spec (ii (K:Int)) x.n.inp (fun k => .mp (8+k)) (.mp 7) x.n.N x.n.S sK.m (by simp [lcells,SV.scs,SV.sc]) (by rw [hmK,hx4]) hx2 hx1
  unfold nowM at hnow
  rw [hmK] at hnow
  refine Run.callR (vs:=[.ptr 0 0]) (caps:=[]) (caps2:=[]) hnow (ent _ _ Try.func53 (by kernel_rfl) rfl) rfl rfl rfl rfl rfl rfl [.ptr 9 0] rfl (fun q=>9+q) rfl (fun q hq=>by show 9+q<37; omega) (fun q hq j hj hne=>by show 9+q≠9+j; omega) (by decide)
   ⟨⟨by omega,by simp [lcells,SObj.sc,SV.scs,SV.sc],⟨_,rfl,Conv.refl _⟩,.inr (by simp),fun h=>by cases h⟩,⟨by omega,trivial,⟨_,rfl,Conv.row (by decide) rfl⟩,.inl rfl,fun _=>by simp⟩,⟨by omega,trivial,⟨_,rfl,Conv.row (by decide) rfl⟩,.inl rfl,fun _=>by simp⟩,⟨by omega,trivial,⟨_,rfl,Conv.row (by decide) (marks_v _)⟩,.inl rfl,fun _=>by simp⟩,trivial⟩ (fun q hq=>by simp at hq; subst hq; exact ⟨by omega,_,rfl⟩) (.agg [.opq 37,ii x.n.inp,.opq 38]) [(37,.row 8 x.n.N.length ((x.n.N.flatMap Prm.vals).map .v) 60),(38,.row 4 x.n.S.length ((nowL x.n.S sK.m).flatMap Syn.cells) 55),(34,.row 2 (trO x l p K).length ((trO x l p K).flatMap Evt.cells) 62),(8,.cells [.v (.slice none 0 0),ii 0,.v (.slice none 0 0)] 25),(6,.pin plp)] 39 rfl rfl
   ⟨.inr ⟨24,_,rfl,rfl,by rw [oren_fix (S:=fun _=>False) (fun i hi=>hi.elim) (o := .row 8 x.n.N.length ((x.n.N.flatMap Prm.vals).map .v) 60) (scs_v _ _)],rfl⟩,.inr ⟨25,_,rfl,rfl,by rw [oren_fix (S:=fun _=>False) (fun i hi=>hi.elim) (o := .row 4 x.n.S.length ((nowL x.n.S sK.m).flatMap Syn.cells) 55) (scs_syns _ _)],rfl⟩,.inl ⟨rfl,fun q hq=>by simp at hq; subst hq; exact (show 9+0≠34 by decide)⟩,.inl ⟨rfl,fun q hq=>by simp at hq; subst hq; exact (show 9+0≠8 by decide)⟩,.inl ⟨rfl,fun q hq=>by simp at hq; subst hq; exact (show 9+0≠6 by decide)⟩,trivial⟩ ?_
  refine Run.of_wpK (hc w L0 none (fun _ h=>by cases h)) 1000 _ ?_
  conv=>whnf
  refine SpecR.introQ (rq [(6,34),(7,37),(8,38)]) (fun i hi=>rq_fix (rq_noneB (B:=6) rfl hi)) ?_ (Widens.refl _ _) hLB (by decide) hcov rfl rfl (by simp [SV.sc,SV.scs]) ?_
  ·intro i hi j hj hne
   have inj : ∀ i,i<9 → ∀ j,j<9→i≠j→rq [(6,34),(7,37),(8,38)] i≠rq [(6,34),(7,37),(8,38)] j:=by decide
   exact inj i hi j hj hne
  ·exact ⟨⟨congrArg some (oren_fix (S:=fun _=>False) (fun i hi=>hi.elim) (o := .row 2 (trO x l p K).length ((trO x l p K).flatMap Evt.cells) 62) (scs_evts _ _)).symm,by omega,scs_evts _ _⟩,⟨congrArg some (oren_fix (S:=fun _=>False) (fun i hi=>hi.elim) (o := .row 8 x.n.N.length ((x.n.N.flatMap Prm.vals).map .v) 60) (scs_v _ _)).symm,by omega,scs_v _ _⟩,⟨congrArg some (oren_fix (S:=fun _=>False) (fun i hi=>hi.elim) (o := .row 4 x.n.S.length ((nowL x.n.S sK.m).flatMap Syn.cells) 55) (scs_syns _ _)).symm,by omega,scs_syns _ _⟩,trivial⟩
end Go.Proofs.Ytnnlpdgnlccbjaa
namespace Go.Sx
/-- A drawn order of the operations 'un', where all others have been done. -/
def Lin (ops:Array Oper) (un:List Nat) (l:List Nat):Prop :=
 ∃ fuel t listed,l=Region.linearise.go .any ops fuel t listed []∧listed.size=ops.size∧(∀ i,i<ops.size→(listed.getD i true=false↔i∈un))∧Down ops listed∧un.length≤fuel
def readyB (ops:List Oper) (un:List Nat) (i:Nat):Bool :=
 match get ops i with
 | some o=>o.after.toList.all fun e => !Region.binds .any e || !memB e.on un
 | none=>false
theorem memB_iff : ∀ {l:List Nat} {i:Nat},memB i l=true↔i∈l:=by
 intro l
 induction l with
 | nil=>intro i; simp [memB]
 | cons a l ih =>
  intro i
  unfold memB
  constructor
  ·intro h
   split at h
   ·rename_i e
    have:=Nat.eq_of_beq_eq_true e
    simp [this]
   ·exact List.mem_cons_of_mem _ (ih.1 h)
  ·intro h
   split
   ·rfl
   ·rename_i e
    rcases List.mem_cons.1 h with rfl | h
    ·rw [Nat.beq_refl] at e; cases e
    ·exact ih.2 h
theorem exMin : ∀ (l:List Nat),l≠[] → ∃ m∈l,∀ x∈l,m≤x
 | [],h=>absurd rfl h
 | [a],_=>⟨a,by simp,by simp⟩
 | a::b::l,_=>by
  obtain ⟨m,h1,h2⟩:=exMin (b::l) (by simp)
  rcases Nat.lt_or_ge a m with h | h
  ·refine ⟨a,by simp,fun x hx => ?_⟩
   rcases List.mem_cons.1 hx with rfl | hx
   ·exact Nat.le_refl _
   ·have:=h2 x hx; omega
  ·refine ⟨m,List.mem_cons_of_mem _ h1,fun x hx => ?_⟩
   rcases List.mem_cons.1 hx with rfl | hx
   ·exact h
   ·exact h2 x hx
theorem getD_tf {listed:Array Bool} {i:Nat} (hi:i<listed.size) (h:listed.getD i false≠true):listed.getD i true=false:=by
 simp only [Array.getD_eq_getD_getElem?,Array.getElem?_eq_getElem hi,Option.getD_some] at h ⊢
 cases hb:listed[i] with
 | true=>exact absurd hb h
 | false=>rfl
theorem due_ready {ops:Array Oper} {listed:Array Bool} {un:List Nat} {i:Nat} (hs:listed.size=ops.size) (hU : ∀ i,i<ops.size→(listed.getD i true=false↔i∈un)) (h:Due ops listed i) {o:Oper} (ho:ops[i]? = some o) : ∀ e∈o.after,Region.binds .any e=true→e.on∉un:=by
 intro e he hb hm
 have h1:=h o e ho he hb
 have hlt:e.on<listed.size:=by
  rcases Nat.lt_or_ge e.on listed.size with h | h
  ·exact h
  ·simp [Array.getD_eq_getD_getElem?,Array.getElem?_eq_none h] at h1
 have h2:=(hU e.on (by omega)).2 hm
 have:=(getD_ft h2).2
 rw [h1] at this; cases this
/-- The next operation: one of those that wait for nothing. -/
theorem Lin.next {ops:Array Oper} {un l:List Nat} (cand:List Nat) (h:Lin ops un l) (he:(un.any fun j=>readyB ops.toList un j)=true) (hr:(un.all fun i => !readyB ops.toList un i||memB i cand)=true) (hlo:(un.all fun j=>match get ops.toList j with
  | some o=>o.after.toList.all fun e=>Nat.blt e.on (lenL ops.toList)
  | none=>true)=true) : ∃ i l',l=i::l'∧i∈cand∧i∈un∧Lin ops (un.filter (fun j => !Nat.beq j i)) l':=by
 obtain ⟨fuel,t,listed,rfl,hs,hU,hD,hf⟩:=h
 obtain ⟨j,hj,hjr⟩:=List.any_eq_true.1 he
 unfold readyB at hjr
 cases ho:get ops.toList j with
 | none=>rw [ho] at hjr; cases hjr
 | some o =>
  rw [ho] at hjr
  simp only at hjr
  have ho':ops[j]? = some o:=by rw [get_eq,Array.getElem?_toList] at ho; exact ho
  have hjlt:j<ops.size:=(Array.getElem?_eq_some_iff.1 ho').1
  have hloj:=List.all_eq_true.1 hlo j hj
  rw [ho] at hloj
  simp only at hloj
  have hready:j∈Region.ready .any ops listed:=by
   refine mem_ready.2 ⟨hjlt,(hU j hjlt).2 hj,fun o2 e ho2 he2 hb => ?_⟩
   rw [ho'] at ho2
   obtain rfl:=Option.some.inj ho2
   have h1:=List.all_eq_true.1 hjr e (by simpa using he2)
   have h2:=List.all_eq_true.1 hloj e (by simpa using he2)
   rw [Nat.blt_eq,lenL_eq,Array.length_toList] at h2
   rw [hb] at h1
   simp only [Bool.not_true,Bool.false_or,Bool.not_eq_true'] at h1
   have h3:e.on∉un:=fun hm=>by rw [memB_iff.2 hm] at h1; cases h1
   cases hc:listed.getD e.on false with
   | true=>rfl
   | false=>exact absurd ((hU e.on h2).1 (getD_tf (by omega) (by rw [hc]; decide))) h3
  cases fuel with
  | zero =>
   have:un=[]:=List.length_eq_zero_iff.1 (by omega)
   rw [this] at hj; cases hj
  | succ fuel =>
   obtain ⟨i,hi,hir⟩:=pick_ready (ops:=ops) (listed:=listed) t (by intro h; rw [h] at hready; cases hready)
   obtain ⟨h1,h2,h3⟩:=mem_ready.1 hir
   have hiu:=(hU i h1).1 h2
   have hoi:ops[i]? = some ops[i]:=Array.getElem?_eq_getElem h1
   have hri:readyB ops.toList un i=true:=by
    unfold readyB
    rw [get_eq,Array.getElem?_toList,hoi]
    simp only
    refine List.all_eq_true.2 fun e he => ?_
    cases hb:Region.binds .any e with
    | false=>rfl
    | true =>
     have h4:=due_ready hs hU h3 hoi e (by simpa using he) hb
     cases hm:memB e.on un with
     | false=>rfl
     | true=>exact absurd (memB_iff.1 hm) h4
   have hci:=List.all_eq_true.1 hr i hiu
   rw [hri] at hci
   simp only [Bool.not_true,Bool.false_or] at hci
   refine ⟨i,Region.linearise.go .any ops fuel (t / (Region.ready .any ops listed).length) (listed.setIfInBounds i true) [],?_,memB_iff.1 hci,hiu,fuel,_,_,rfl,by simpa using hs,fun q hq => ?_,hD.set h3,?_⟩
   ·rw [go_step,hi]
   ·rw [getD_set,List.mem_filter]
    by_cases e:i=q
    ·subst e
     rw [if_pos ⟨rfl,by omega⟩]
     simp [Nat.beq_refl]
    ·rw [if_neg (fun hh=>e hh.1),hU q hq]
     have:Nat.beq q i=false:=by
      cases hb:Nat.beq q i with
      | false=>rfl
      | true=>exact absurd (Nat.eq_of_beq_eq_true hb).symm e
     simp [this]
   ·have:(un.filter fun j => !Nat.beq j i).length<un.length:=List.length_filter_lt_length_iff_exists.2 ⟨i,hiu,by simp [Nat.beq_refl]⟩
    omega
/-- Nothing is left. -/
theorem Lin.nil {ops:Array Oper} {l:List Nat} (h:Lin ops [] l):l=[]:=by
 obtain ⟨fuel,t,listed,rfl,hs,hU,hD,hf⟩:=h
 cases fuel with
 | zero=>rfl
 | succ fuel =>
  have:Region.ready .any ops listed=[]:=by
   apply List.eq_nil_iff_forall_not_mem.2
   intro i hi
   obtain ⟨h1,h2,_⟩:=mem_ready.1 hi
   exact absurd ((hU i h1).1 h2) (by simp)
  rw [go_step,this]; rfl
theorem Lin.ofGo {ops:Array Oper} {l:List Nat} (un:List Nat) (h:LinGo ops 0 l) (h1:(upto 0 ops.size).all (fun i=>memB i un)=true) (h2:un.length≤ops.size):Lin ops un l:=by
 obtain ⟨fuel,t,listed,rfl,hs,hU,hD,hf⟩:=h
 refine ⟨fuel,t,listed,rfl,hs,fun i hi => ?_,hD,by omega⟩
 rw [hU i hi]
 refine ⟨fun _=>memB_iff.1 (List.all_eq_true.1 h1 i ?_),fun _=>Nat.zero_le _⟩
 rw [upto_eq]
 exact List.mem_range'_1.2 (by omega)
/-- Whatever order is drawn: the operations 'ns' are done as in the order that is told, those of 'fl' perhaps. -/
theorem gameQ {c:Cx} (hc:c.ok) {ops:Array Oper} {n0:Nat} {T':Tm} {M':Mem} {D:List Deferred} {R:Ending→World→Prop} {k:List Item} (ns fl rest:List Nat) (L0:List (Tr × Option Eff))
  (hcl : ∀ i∈ns,∀ o e,ops[i]? = some o→e∈o.after→Region.binds .any e=true→e.on∉fl∧e.on∉rest∧e.on<i) (hns : ∀ i∈ns,i<ops.size∧i∉rest)
  (htail : ∀ i∈rest,∀ j∈ns,TP ops j i)
  (hfin : ∀ l l1,(∀ x∈l,x∈L0∧x.1.i∉ns)→(l.map (·.1.i)).Nodup→Lin ops (l.map (·.1.i)++rest) l1 → ∀ T M S ρ a w,Runs c ops.toList n0 l T M T' M'→a.tmps.size=c.fn.ntmps→TmOk ρ T S a→a.defers=D→WI c.w0 c.L ρ M S w→(∀ x,S x→x<n0+ops.size)→TW c.P c.f c.rr a (.inRegion ops l1::k) w R) :
  ∀ (fuel:Nat) (l:List (Tr × Option Eff)) (t:Nat) (listed:Array Bool) (T:Tm) (M:Mem) (S:Nat→Prop) (ρ:Env) (a:Act) (w:World),
   listed.size=ops.size→(∀ i,i<ops.size→(listed.getD i true=false↔i∈l.map (·.1.i)++rest))→Down ops listed→l.length+rest.length≤fuel →
   (∀ x∈l,x∈L0)→(∀ x∈l,x.1.i<ops.size∧(x.1.i∈ns∨x.1.i∈fl))→(l.map (·.1.i)).Nodup→l.Pairwise (fun a b=>TP ops a.1.i b.1.i∨Apart a.1 b.1)→Runs c ops.toList n0 l T M T' M' →
   a.tmps.size=c.fn.ntmps→TmOk ρ T S a→a.defers=D→WI c.w0 c.L ρ M S w→(∀ x,S x→x<n0+ops.size)→(∀ x∈l,¬ S (n0+x.1.i)) →
   TW c.P c.f c.rr a (.inRegion ops (Region.linearise.go .any ops fuel t listed [])::k) w R:=by
 intro fuel
 induction fuel with
 | zero =>
  intro l t listed T M S ρ a w hls hU hD hcount hL0 hlt hnd hap hrun hsz hT hdf hW hS hfresh
  have hl:l=[]:=List.length_eq_zero_iff.1 (by omega)
  subst hl
  exact hfin [] _ (by simp) .nil ⟨0,t,listed,rfl,hls,hU,hD,by simpa using hcount⟩ T M S ρ a w hrun hsz hT hdf hW hS
 | succ fuel ih =>
  intro l t listed T M S ρ a w hls hU hD hcount hL0 hlt hnd hap hrun hsz hT hdf hW hS hfresh
  by_cases hex : ∃ x∈l,x.1.i∈ns
  case neg =>
   exact hfin l _ (fun x hx=>⟨hL0 x hx,fun h=>hex ⟨x,hx,h⟩⟩) hnd ⟨fuel+1,t,listed,rfl,hls,hU,hD,by simpa using hcount⟩ T M S ρ a w hrun hsz hT hdf hW hS
  obtain ⟨x1,hx1,hx1n⟩:=hex
  obtain ⟨j0,hj0,hmin⟩:=exMin ((l.map (·.1.i)).filter fun i=>memB i ns) (List.ne_nil_of_mem (List.mem_filter.2 ⟨List.mem_map.2 ⟨x1,hx1,rfl⟩,memB_iff.2 hx1n⟩))
  obtain ⟨hj0l,hj0n⟩:=List.mem_filter.1 hj0
  have hj0n:=memB_iff.1 hj0n
  obtain ⟨x0,hx0,rfl⟩:=List.mem_map.1 hj0l
  have hx0lt:=(hns _ hj0n).1
  have hx0un:listed.getD x0.1.i true=false:=(hU _ hx0lt).2 (List.mem_append_left _ hj0l)
  have hready:x0.1.i∈Region.ready .any ops listed:=by
   refine mem_ready.2 ⟨hx0lt,hx0un,fun o e ho he hb => ?_⟩
   obtain ⟨q1,q2,q3⟩:=hcl _ hj0n o e ho he hb
   cases hcx:listed.getD e.on false with
   | true=>rfl
   | false =>
    have:listed.getD e.on true=false:=getD_tf (by omega) (by rw [hcx]; decide)
    rcases List.mem_append.1 ((hU e.on (by omega)).1 this) with h | h
    ·obtain ⟨y,hy,hye⟩:=List.mem_map.1 h
     rcases (hlt y hy).2 with h5 | h5
     ·have:=hmin y.1.i (List.mem_filter.2 ⟨List.mem_map.2 ⟨y,hy,rfl⟩,memB_iff.2 h5⟩)
      omega
     ·rw [hye] at h5; exact absurd h5 q1
    ·exact absurd h q2
  obtain ⟨i,hi,hir⟩:=pick_ready (ops:=ops) (listed:=listed) t (by intro h; rw [h] at hready; cases hready)
  obtain ⟨h1,h2,h3⟩:=mem_ready.1 hir
  have him:i∉rest:=by
   intro hge
   have:=TP.listed hD (htail i hge x0.1.i hj0n) h3
   have:=(getD_ft hx0un).2
   simp_all
  obtain ⟨⟨b,x⟩,hbl,hbi⟩ : ∃ y∈l,y.1.i=i:=by
   rcases List.mem_append.1 ((hU i h1).1 h2) with h | h
   ·obtain ⟨y,hy,hye⟩:=List.mem_map.1 h
    exact ⟨y,hy,hye⟩
   ·exact absurd h him
  simp only at hbi
  subst hbi
  obtain ⟨p,q,hpq⟩:=List.append_of_mem hbl
  rw [hpq] at hrun hap
  have hapart : ∀ y∈p,Apart y.1 b:=by
   intro y hy
   rcases (List.pairwise_append.1 hap).2.2 y hy (b,x) (by simp) with htp | h
   ·exfalso
    have e1:=TP.listed hD htp h3
    have hyl:y∈l:=by rw [hpq]; simp [hy]
    have e2:=(getD_ft ((hU y.1.i (hlt y hyl).1).2 (List.mem_append_left _ (List.mem_map.2 ⟨y,hyl,rfl⟩)))).2
    simp_all
   ·exact h
  obtain ⟨hstep,hrest⟩:=hrun.front hc.pf hapart
  have hbS : ¬ S (n0+b.i):=hfresh (b,x) hbl
  have hap':(p++q).Pairwise (fun a b=>TP ops a.1.i b.1.i∨Apart a.1 b.1):=by
   rw [List.pairwise_append] at hap ⊢
   exact ⟨hap.1,(List.pairwise_cons.1 hap.2.1).2,fun y hy z hz=>hap.2.2 y hy z (by simp [hz])⟩
  have hnd2:(p.map (·.1.i)++b.i::q.map (·.1.i)).Nodup:=by rw [hpq] at hnd; simpa using hnd
  have hnd':((p++q).map (·.1.i)).Nodup:=by
   rw [List.map_append]
   rw [List.nodup_append] at hnd2 ⊢
   exact ⟨hnd2.1,(List.nodup_cons.1 hnd2.2.1).2,fun u hu v hv=>hnd2.2.2 u hu v (List.mem_cons_of_mem _ hv)⟩
  have hne : ∀ y∈p++q,y.1.i≠b.i:=by
   intro y hy e
   rw [List.nodup_append] at hnd2
   rcases List.mem_append.1 hy with hy | hy
   ·exact hnd2.2.2 _ (List.mem_map.2 ⟨y,hy,rfl⟩) b.i (by simp) e
   ·exact (List.nodup_cons.1 hnd2.2.1).1 (by rw [← e]; exact List.mem_map.2 ⟨y,hy,rfl⟩)
  have hmem : ∀ y,y∈l↔y=(b,x)∨y∈p++q:=by intro y; rw [hpq]; simp; constructor <;> (rintro (h | h | h) <;> simp [h])
  have hU' : ∀ j,j<ops.size→((listed.setIfInBounds b.i true).getD j true=false↔j∈(p++q).map (·.1.i)++rest):=by
   intro j hj
   rw [getD_set]
   constructor
   ·intro h
    split at h
    ·cases h
    ·rename_i hnej
     rcases List.mem_append.1 ((hU j hj).1 h) with h | h
     ·obtain ⟨y,hy,hyj⟩:=List.mem_map.1 h
      rcases (hmem y).1 hy with rfl | hy
      ·exact absurd ⟨hyj,by omega⟩ hnej
      ·exact List.mem_append_left _ (List.mem_map.2 ⟨y,hy,hyj⟩)
     ·exact List.mem_append_right _ h
   ·intro h
    rcases List.mem_append.1 h with h | h
    ·obtain ⟨y,hy,hyj⟩:=List.mem_map.1 h
     rw [if_neg (fun hh=>hne y hy (hyj.trans hh.1.symm))]
     exact (hU j hj).2 (List.mem_append_left _ (List.mem_map.2 ⟨y,(hmem y).2 (.inr hy),hyj⟩))
    ·rw [if_neg (fun hh:b.i=j∧j<listed.size=>him (by rw [hh.1]; exact h))]
     exact (hU j hj).2 (List.mem_append_right _ h)
  have hlt' : ∀ y∈p++q,y.1.i<ops.size∧(y.1.i∈ns∨y.1.i∈fl):=fun y hy=>hlt y ((hmem y).2 (.inr hy))
  have hlen:(p++q).length+rest.length≤fuel:=by
   have:l.length=(p++q).length+1:=by rw [hpq]; simp; omega
   omega
  rw [go_step,hi]
  simp only
  obtain ⟨o,s1,s2,s3,s4,s5⟩:=hstep
  rw [get_eq,Array.getElem?_toList] at s1
  cases x with
  | none =>
   refine TW.pass s1 (wantS_ok hT s5.1) ?_
   refine ih (p++q) _ _ _ _ S ρ _ w (by simpa using hls) hU' (hD.set h3) hlen (fun y hy=>hL0 y ((hmem y).2 (.inr hy))) hlt' hnd' hap' hrest (by rw [Act.put_size]; exact hsz) ?_ (by rw [Act.put_defers]; exact hdf) hW hS (fun y hy=>hfresh y ((hmem y).2 (.inr hy)))
   rw [s3]
   exact hT.updD hsz (Env.agree.refl S ρ) (fun _ h=>h) s2 (v := .v undef) trivial
  | some e =>
   obtain ⟨g1,g2,g3,g4,g5⟩:=s5
   refine TW.op s1 (wantS_ok hT g1) ?_
   refine (opF_ok hc.tab hc.pf hT hW hbS g2 g3).mono fun v w' hp => ?_
   obtain ⟨ρ',r1,rfl,r3,r4⟩:=hp
   have hdom : ∀ j,S j→e.dom S (n0+b.i) j:=fun j hj=>by cases e <;> first | exact hj | exact .inl hj
   have hdom' : ∀ j,e.dom S (n0+b.i) j→S j∨j=n0+b.i:=fun j hj=>by cases e <;> first | exact .inl hj | exact hj
   refine ih (p++q) _ _ _ _ (e.dom S (n0+b.i)) ρ' _ w' (by simpa using hls) hU' (hD.set h3) hlen (fun y hy=>hL0 y ((hmem y).2 (.inr hy))) hlt' hnd' hap' hrest (by rw [Act.put_size]; exact hsz) ?_ (by rw [Act.put_defers]; exact hdf) r4 ?_ ?_
   ·rw [s3]
    exact hT.updD hsz r1 hdom s2 r3
   ·intro j hj
    rcases hdom' j hj with hj | rfl
    ·exact hS j hj
    ·omega
   ·intro y hy hj
    rcases hdom' _ hj with hj | hj
    ·exact hfresh y ((hmem y).2 (.inr hy)) hj
    ·exact hne y hy (by omega)
def onsB (ops:List Oper) (ns fl rest:List Nat):Bool:=ns.all fun i=>match get ops i with
 | some o => !memB i rest&&o.after.toList.all fun e => !Region.binds .any e||(!memB e.on fl&&(!memB e.on rest&&Nat.blt e.on i))
 | none=>false
def waitB (mk:List Nat) (ns rest:List Nat):Bool:=rest.all fun i=>ns.all fun j=>(getD0 mk i).testBit j
def nodupB:List Nat→Bool
 | []=>true
 | a::l => !memB a l&&nodupB l
theorem nodupB_ok : ∀ {l:List Nat},nodupB l=true→l.Nodup
 | [],_ => .nil
 | a::l,h=>by
  unfold nodupB at h
  simp only [Bool.and_eq_true,Bool.not_eq_true'] at h
  exact List.nodup_cons.2 ⟨(fun hm=>by rw [memB_iff.2 hm] at h; exact absurd h.1 (by decide)),nodupB_ok h.2⟩
def chkQ (ops:List Oper) (un ns fl rest:List Nat) (l:List Tr):Bool :=
 onsB ops ns fl rest&&(nodupB (ns++fl)&&(Nat.ble (lenL fl) 1&&(((ns++fl).all fun i=>Nat.blt i (lenL ops))&&((un.all fun i=>memB i (ns++fl++rest))&&(((ns++fl++rest).all fun i=>memB i un)&&(Nat.ble (lenL ns+lenL fl+lenL rest) (lenL un) &&
  (let mk:=masks ops []; waitB mk ns rest&&pairsB mk l)))))))
theorem WI.sub {w0:World} {L:List (Nat × Nat)} {ρ:Env} {M M1:Mem} {S:Nat→Prop} {w:World} (h:WI w0 L ρ M S w) (hs : ∀ i o,M1 i=some o→M i=some o):WI w0 L ρ M1 S w :=
 ⟨fun i o hi=>h.mem i o (hs i o hi),fun i j oi oj hi hj=>h.dist i j oi oj (hs i oi hi) (hs j oj hj),fun i o hi=>h.new i o (hs i o hi),h.lid,h.keep,h.size,h.os,h.tape,h.output⟩
def chkF (fl:List Nat) (l:List Tr) (ts ms:List Nat):Bool :=
 l.all fun y => !memB y.i fl||((ts.all fun t=>match y.dst with
  | some d => !Nat.beq d t
  | none=>true)&&ms.all fun m => !memB m y.wr)
/-- Some of the operations that are left. -/
theorem Run.drawQ {c:Cx} (hc:c.ok) {T:List (Nat × SV)} {M:List (Nat × SObj)} {n:Nat} {D:List Deferred} {ops:Array Oper} {un l0:List Nat} {k:List Item} {R:Ending→World→Prop} (ns fl rest:List Nat) (hl0:Lin ops un l0)
  (h:drawK c ops.toList n False (fun T' M' l=>chkQ ops.toList un ns fl rest l=true∧(∀ l1,Lin ops rest l1→Run c ⟨T',M',n+lenL ops.toList,D,.inRegion ops l1::k⟩ R) ∧
   (fl=[] ∨ ∃ Tn Mn,chkF fl l (Tn.map (·.1)) (Mn.map (·.1))=true∧AllP (fun x=>look T' x.1=some x.2) Tn∧AllP (fun x=>look M' x.1=some x.2) Mn ∧ ∀ l1,Lin ops (fl++rest) l1→Run c ⟨Tn,Mn,n+lenL ops.toList,D,.inRegion ops l1::k⟩ R)) (ns++fl) T M []) :
  Run c ⟨T,M,n,D,.inRegion ops l0::k⟩ R:=by
 rcases drawK_ok _ _ _ _ h with h | ⟨l,T',M',h1,h2,h3,h4,h5⟩
 ·exact h.elim
 simp only [List.nil_append] at h3 h5
 unfold chkQ at h3
 simp only [Bool.and_eq_true] at h3
 obtain ⟨c1,c2,c3,c4,c5,c6,c7,c8,c9⟩:=h3
 have hmk : ∀ k j,(getD0 (masks ops.toList []) k).testBit j=true→TP ops j k:=masks_ok ops.toList [] (by simp) (by simp [getD0])
 have hidx:l.map (·.1.i)=ns++fl:=h1
 have hnd:(ns++fl).Nodup:=nodupB_ok c2
 have hap:l.Pairwise (fun a b=>TP ops a.1.i b.1.i∨Apart a.1 b.1):=List.pairwise_map.1 (pairsB_ok hmk c9)
 have hsz : ∀ i∈ns++fl,i<ops.size:=fun i hi=>by
  have:=List.all_eq_true.1 c4 i hi
  rwa [Nat.blt_eq,lenL_eq,Array.length_toList] at this
 have hunm : ∀ i,i∈un↔i∈ns++fl++rest:=fun i=>⟨fun hi=>memB_iff.1 (List.all_eq_true.1 c5 i hi),fun hi=>memB_iff.1 (List.all_eq_true.1 c6 i hi)⟩
 have hcl : ∀ i∈ns,∀ o e,ops[i]? = some o→e∈o.after→Region.binds .any e=true→e.on∉fl∧e.on∉rest∧e.on<i:=fun i hi o e ho he hb=>by
  have:=List.all_eq_true.1 c1 i hi
  rw [get_eq,Array.getElem?_toList,ho] at this
  simp only [Bool.and_eq_true] at this
  have h6:=List.all_eq_true.1 this.2 e (by simpa using he)
  rw [hb] at h6
  simp only [Bool.not_true,Bool.false_or,Bool.and_eq_true,Bool.not_eq_true'] at h6
  refine ⟨fun hm => ?_,fun hm => ?_,by simpa [Nat.blt_eq] using h6.2.2⟩
  ·rw [memB_iff.2 hm] at h6; cases h6.1
  ·rw [memB_iff.2 hm] at h6; cases h6.2.1
 have hns : ∀ i∈ns,i<ops.size∧i∉rest:=fun i hi=>⟨hsz i (List.mem_append_left _ hi),fun hm=>by
  have:=List.all_eq_true.1 c1 i hi
  split at this
  ·rw [memB_iff.2 hm] at this; simp at this
  ·cases this⟩
 have htail : ∀ i∈rest,∀ j∈ns,TP ops j i:=fun i hi j hj=>hmk _ _ (List.all_eq_true.1 (List.all_eq_true.1 c8 i hi) j hj)
 obtain ⟨fuel,t,listed,rfl,g1,g2,g3,g4⟩:=hl0
 refine ⟨fun ρ a w hi => ?_⟩
 have hlt : ∀ x,(x<n)→x<n+ops.size:=fun x hx=>by omega
 have hnl:n+lenL ops.toList=n+ops.size:=by rw [lenL_eq,Array.length_toList]
 have hmono : ∀ {S:Nat→Prop},(∀ x,S x→x<n+ops.size) → ∀ x,S x→x<n+lenL ops.toList:=fun hS x hx=>by rw [hnl]; exact hS x hx
 refine gameQ hc ns fl rest l hcl hns htail (fun l2 l1 hl2 hnd2 hlin T2 M2 S ρ a w hr q1 q2 q3 q4 hS => ?_) fuel l t listed _ _ (· < n) ρ a w g1 (fun i hi2 => ?_) g3 ?_ (fun x hx=>hx) (fun x hx => ?_) (by rw [hidx]; exact hnd) hap h2 hi.sz hi.tm hi.df hi.wi hlt (fun x hx hlt'=>by omega)
 ·cases l2 with
  | nil =>
   obtain ⟨rfl,rfl⟩:=hr
   exact (h4 l1 (by simpa using hlin)).go ρ a w ⟨q1,q2.mono (hmono hS),q3,q4.mono (hmono hS)⟩
  | cons x l3 =>
   have hxf : ∀ y∈x::l3,y.1.i∈fl:=fun y hy=>by
    have h6:=hl2 y hy
    have:y.1.i∈ns++fl:=by rw [← hidx]; exact List.mem_map.2 ⟨y,h6.1,rfl⟩
    rcases List.mem_append.1 this with h7 | h7
    ·exact absurd h7 h6.2
    ·exact h7
   have hfl1 : ∃ f,fl=[f]:=by
    have h6:=Nat.le_of_ble_eq_true c3
    rw [lenL_eq] at h6
    cases fl with
    | nil=>have:=hxf x (by simp); cases this
    | cons f fl' =>
     have:fl'=[]:=List.length_eq_zero_iff.1 (by simp only [List.length_cons] at h6; omega)
     exact ⟨f,by rw [this]⟩
   obtain ⟨f,rfl⟩:=hfl1
   have hl3:l3=[]:=by
    cases l3 with
    | nil=>rfl
    | cons y l4 =>
     exfalso
     have e1:x.1.i=f:=by simpa using hxf x (by simp)
     have e2:y.1.i=f:=by simpa using hxf y (by simp)
     have:=(List.nodup_cons.1 hnd2).1
     exact this (by simp [e1,e2])
   subst hl3
   rcases h5 with h5 | ⟨Tn,Mn,k0,k1,k2,k3⟩
   ·cases h5
   have hxi:x.1.i=f:=by simpa using hxf x (by simp)
   obtain ⟨hst,rfl',rfl''⟩:=hr
   have hxl:=(hl2 x (by simp)).1
   have hxm:x.1∈l.map (·.1):=List.mem_map.2 ⟨x,hxl,rfl⟩
   have k0':=List.all_eq_true.1 k0 x.1 hxm
   rw [memB_iff.2 (by simp [hxi])] at k0'
   simp only [Bool.not_true,Bool.false_or,Bool.and_eq_true] at k0'
   have e1 : ∀ t v,look Tn t=some v→T2 t=some v:=fun t v ht=>by
    have m1:=k1.mem _ (look_mem ht)
    simp only at m1
    rw [← m1,← rfl']
    refine (actT_other fun u hu e => ?_).symm
    have:=List.all_eq_true.1 k0'.1 t (List.mem_map.2 ⟨_,look_mem ht,rfl⟩)
    rw [hu] at this
    subst e
    simp [Nat.beq_refl] at this
   have e2 : ∀ i o,look Mn i=some o→M2 i=some o:=fun i o hi=>by
    have m1:=k2.mem _ (look_mem hi)
    simp only at m1
    rw [← m1,← rfl'']
    refine (hst.memOther fun hw => ?_).symm
    have:=List.all_eq_true.1 k0'.2 i (List.mem_map.2 ⟨_,look_mem hi,rfl⟩)
    rw [memB_iff.2 hw] at this
    cases this
   refine (k3 l1 (by simpa [hxi] using hlin)).go ρ a w ⟨q1,fun t v ht => ?_,q3,(q4.mono (hmono hS)).sub e2⟩
   exact (q2.mono (hmono hS)) t v (e1 t v ht)
 ·rw [g2 i hi2,hidx,hunm]
 ·have:l.length=(ns++fl).length:=by rw [← hidx,List.length_map]
  have h6:=Nat.le_of_ble_eq_true c7
  rw [lenL_eq,lenL_eq,lenL_eq,lenL_eq] at h6
  simp only [List.length_append] at this
  omega
 ·have:x.1.i∈ns++fl:=by rw [← hidx]; exact List.mem_map.2 ⟨x,hx,rfl⟩
  exact ⟨hsz _ this,List.mem_append.1 this⟩
theorem joinA {G:Prop} {c:Cx} {R:Ending→World→Prop} {k:List Item} {ops:Array Oper} (T:List (Nat × SV)) (M:List (Nat × SObj)) (n:Nat) (un:List Nat) (h1:(∀ l1,Lin ops un l1→Run c ⟨T,M,n,[],.inRegion ops l1::k⟩ R)→G)
  (h2 : ∀ l1,Lin ops un l1→Run c ⟨T,M,n,[],.inRegion ops l1::k⟩ R):G:=h1 h2
end Go.Sx
namespace Go.Sx
theorem run_appendNil {P:Program} {t e ty:TypeId} {i:TypeInfo} (w:World) (ht:P.underlying t=some (.slice e)) (hi:P.info? e=some i) (a:Addr) (len cap cap2:Nat) (hle:len≤cap) :
  (Builtin.append_ #[t,t] ty #[.slice (some a) len cap,.slice none 0 cap2]).run P w = .ok (.slice (some a) len cap) w:=by
 simp [Builtin.append_,run_underlying ht,sizeOf,typeInfo,hi,Builtin.lenOf,hle,run_firstCells_none,storeCells]
/-- 'append' of a nil slice to a slice with its array told. -/
theorem Run.appendNil {c:Cx} (hc:c.ok) {T:List (Nat × SV)} {M:List (Nat × SObj)} {n:Nat} {D:List Deferred} {ops:Array Oper} {i:Nat} {r:List Nat} {k:List Item} {R:Ending→World→Prop} {o:Oper} {x y:Operand} {t:TypeId}
  (ho:get ops.toList i=some o) (hop:o.op = .call { callee := .builtin .append,args := #[x,y],argTypes := #[t,t] }) (hw:wantS ops.toList (look T) o=some true) (hd:okD c.fn.ntmps o.dst=true)
  {j off len cap:Nat} (hx:ev (look T) x=some (.slc j off len cap)) {cap2:Nat} (hle:len≤cap) (hy:ev (look T) y=some (.v (.slice none 0 cap2))) {ti:TI} {te:TypeId} {e bytes:Nat} (hti:look c.tab t=some ti) (hsh:ti.sh = .slc te e bytes)
  (h:Run c ⟨putS T o.dst (.slc j off len cap),M,n,D,.inRegion ops r::k⟩ R):Run c ⟨T,M,n,D,.inRegion ops (i::r)::k⟩ R:=by
 refine ⟨fun ρ a w hi => ?_⟩
 rw [get_eq,Array.getElem?_toList] at ho
 refine TW.op ho (wantS_ok hi.tm hw) ?_
 obtain ⟨h1,hs1⟩:=ev_ok hi.tm hx
 obtain ⟨h2,_⟩:=ev_ok hi.tm hy
 have hti:=Tab.ok_look hc.tab hti
 obtain ⟨d,hd1,hd2⟩:=hti.desc
 obtain ⟨inf,rfl,g2,g3,g4⟩:=sh_desc.2.2.2.2.1 te e bytes (hd2.trans hsh)
 have hrun:(execOp a.eval o).run c.P w = .ok (.value ((SV.slc j off len cap).conc ρ)) w:=by
  simp only [SV.conc] at h1 h2
  simp [execOp,hop,resolve,invoke,builtin,h1,h2,run_appendNil w hd1 g2 _ len cap cap2 hle,SV.conc]
 refine Oc.value hrun ?_
 have hinv:=hi.put (ρ':=ρ) hd (Env.agree.refl _ ρ) (Nat.le_refl n) (v := .slc j off len cap) hs1 hi.wi (.inRegion ops r::k)
 exact h.go _ _ w hinv
end Go.Sx
namespace Go.Proofs.Ytnnlpdgnlccbjaa
open Go.Sx
set_option maxRecDepth 100000
set_option maxHeartbeats 4000000
theorem plastic_run (v:Value) (more:List Int) (w:World) (hr:RowsAt w v 1 more.length (ints more)) (hn:more.length≤1000):Calls Try.prog 34 #[v] w (ClonePost 3 1 (more.length+3) ([.int .i64 (-1),.int .i64 (-1),.int .i64 0]++ints more) w):=by
 have hc : ∀ f fn cuts L,Try.prog.funcs[f]? = some fn→Cx.ok ⟨Try.prog,tab,[],f,fn,cuts,w,L,none⟩:=fun f fn cuts L h=>⟨tab_ok,trivial,h,mixed,fun _ h=>by cases h⟩
 obtain ⟨hl,p,cap,rfl,hcap,hp⟩:=hr
 obtain ⟨m,hm⟩ : ∃ m,more.length=m:=⟨_,rfl⟩
 rw [hm] at hl hcap hp hn ⊢
 refine Run.start0 (tab:=tab) (pf:=[]) (cuts:=[]) mixed tab_ok trivial Try.func34 rfl [.v (.slice p m cap)] 100 (by simp [SV.scs,SV.sc]) rfl ?_
 conv=>whnf
 cases p with
 | none =>
  have h0:m=0:=by
   rcases hp with hp | ⟨_,_,hp,_⟩
   ·exact hp
   ·cases hp
  subst h0
  have hvs:ints more=[]:=List.eq_nil_of_length_eq_zero (by simpa using hl)
  rw [hvs]
  refine Run.appendNil (hc _ _ _ _ Try.func34) rfl rfl rfl rfl rfl (by decide) rfl rfl rfl ?_
  refine Run.of_wpK (hc _ _ _ _ Try.func34) 1 _ ?_
  conv=>whnf
  refine Run.slcRowE (T':=[(2,.opq 1)]) (M':=[]) 0 1 3 [ii (-1),ii (-1),ii 0] 3 rfl rfl (by omega) (AllP.mem ⟨.inr ⟨rfl,rfl⟩,trivial⟩) (fun x hx=>by cases hx) ?_
  refine Run.of_wpK (hc _ _ _ _ Try.func34) 100 _ ?_
  conv=>whnf
  refine ⟨fun ρ w' hW _=>⟨(SV.opq 1).conc ρ,rfl,hW.toExt,?_⟩⟩
  exact hW.ownsNew (i:=1) (e:=1) rfl (by omega)
 | some ad =>
  refine Run.slcRowE (T':=[(3,.opq 1),(4,.v (.slice (some ad) m cap))]) (M':=[]) 0 1 3 [ii (-1),ii (-1),ii 0] 3 rfl rfl (by omega) (AllP.mem ⟨.inr ⟨rfl,rfl⟩,.inl rfl,trivial⟩) (fun x hx=>by cases hx) ?_
  refine Run.appendV (hc _ _ _ _ Try.func34) rfl rfl rfl rfl rfl rfl (ints more) rfl hl (fun ρ w1 hW jj u hu => ?_) (one_ints _) rfl rfl rfl rfl (by omega) ⟨by omega,by omega⟩ [] (fun x hx=>by cases hx) ?_
  ·have hr2:RowsAt w (.slice (some ad) m cap) 1 m (ints more):=⟨hl,some ad,cap,rfl,hcap,hp⟩
   obtain ⟨_,p2,cap2,h2,_,h3⟩:=hr2.ext hW.toExt
   simp only [Value.slice.injEq] at h2
   obtain ⟨rfl,_,rfl⟩:=h2
   rcases h3 with h3 | ⟨blk,off,h3,h4,h5⟩
   ·subst h3
    have hvs:ints more=[]:=List.eq_nil_of_length_eq_zero (by simpa using hl)
    rw [hvs] at hu
    cases hu
   ·obtain rfl:=Option.some.inj h3
    rw [addr_add]; exact h5 jj u hu
  refine Run.of_wpK (hc _ _ _ _ Try.func34) 100 _ ?_
  conv=>whnf
  refine ⟨fun ρ w' hW _=>⟨(SV.opq 2).conc ρ,rfl,hW.toExt,?_⟩⟩
  have:=hW.ownsNew (i:=2) (e:=1) rfl (by omega)
  rw [concs_append,concs_v,Nat.add_comm] at this
  exact this
/-- The numbers of a list. -/
def intsOf:List Value→Option (List Int)
 | []=>some []
 | .int .i64 x::l=>match intsOf l with
  | some r=>some (x::r)
  | none=>none
 | _::_=>none
theorem intsOf_ints : ∀ l:List Int,intsOf (ints l)=some l
 | []=>rfl
 | a::l=>by
  show intsOf (.int .i64 a::ints l)=_
  unfold intsOf
  rw [intsOf_ints l]
theorem intsOf_eq : ∀ {l:List Value} {r:List Int},intsOf l=some r→l=ints r
 | [],r,h=>by obtain rfl:=Option.some.inj h; rfl
 | v::l,r,h=>by
  unfold intsOf at h
  split at h
  ·rename_i hv; cases hv
  ·rename_i hv
   split at h
   ·rename_i hr
    obtain rfl:=Option.some.inj h
    simp only [List.cons.injEq] at hv
    obtain ⟨rfl,rfl⟩:=hv
    rw [intsOf_eq hr]; rfl
   ·cases h
  ·cases h
def FPl:Mem→List SV→Option (List Nat × SV):=fun M args=>match args with
 | [.v (.slice none 0 0)]=>some ([1,3,3],.agg [ii (-1),ii (-1),ii 0])
 | [.opq j]=>match M j with
  | some (.rwin 1 n vs)=>match intsOf vs with
   | some more=>if more.length=n∧n≤1000 then some ([1,n+3,3],.agg ([ii (-1),ii (-1),ii 0]++(ints more).map .v)) else none
   | none=>none
  | _=>none
 | _=>none
theorem FPl_win {more:List Int} {M:Mem} {j:Nat} (hM:M j=some (.rwin 1 more.length (ints more))) (hn:more.length≤1000):FPl M [.opq j]=some ([1,more.length+3,3],.agg ([ii (-1),ii (-1),ii 0]++(ints more).map .v)):=by
 unfold FPl
 simp only [hM,intsOf_ints]
 rw [if_pos ⟨trivial,hn⟩]
theorem mk_plastic:Maker Try.prog 34 FPl where
 ent:=ent _ _ Try.func34 (by kernel_rfl) rfl
 cong M M' args hb:=by
  unfold FPl
  split
  ·rfl
  ·rename_i j
   rw [hb (.opq j) (by simp) j (by simp [blkOf])]
  ·rfl
 run w0 L ρ M S args e m te xs w hW hF hs:=by
  unfold FPl at hF
  split at hF
  ·simp only [Option.some.injEq,Prod.mk.injEq,List.cons.injEq,SV.agg.injEq,and_true] at hF
   obtain ⟨⟨rfl,rfl,rfl⟩,rfl⟩:=hF
   exact ⟨by simp [SV.scs,SV.sc],plastic_run (.slice none 0 0) [] w ⟨rfl,none,0,rfl,Nat.le_refl _,.inl rfl⟩ (by simp)⟩
  ·rename_i j
   split at hF
   ·rename_i n vs hM
    split at hF
    ·rename_i more hmore
     split at hF
     ·rename_i hc
      obtain ⟨rfl,hn⟩:=hc
      obtain rfl:=intsOf_eq hmore
      simp only [Option.some.injEq,Prod.mk.injEq,List.cons.injEq,SV.agg.injEq,and_true] at hF
      obtain ⟨⟨rfl,rfl,rfl⟩,rfl⟩:=hF
      refine ⟨scs_append (by simp [SV.scs,SV.sc]) (scs_v _ _),?_⟩
      have:=plastic_run _ more w (hW.rowsAt hM) hn
      rw [concs_append,concs_v]
      exact this
     ·cases hF
    ·cases hF
   ·cases hF
  ·cases hF
 runM w0 L ρ M S args pk w hW hF hs:=by
  exfalso
  unfold FPl at hF
  split at hF
  ·cases hF
  ·split at hF
   ·split at hF
    ·split at hF
     ·cases hF
     ·cases hF
    ·cases hF
   ·cases hF
  ·cases hF
theorem first_run (w:World):Calls Try.prog 41 #[] w (ClonePost 62 2 2 [.int .i64 0,.int .i64 0,.int .i64 2,.int .i64 1] w):=by
 have hc : ∀ f fn cuts L,Try.prog.funcs[f]? = some fn→Cx.ok ⟨Try.prog,tab,[],f,fn,cuts,w,L,none⟩:=fun f fn cuts L h=>⟨tab_ok,trivial,h,mixed,fun _ h=>by cases h⟩
 refine Run.start0 (tab:=tab) (pf:=[]) (cuts:=[]) mixed tab_ok trivial Try.func41 rfl [] 10 trivial rfl ?_
 conv=>whnf
 refine Run.slcRowE (T':=[(0,.opq 1)]) (M':=[]) 0 2 2 [ii 0,ii 0,ii 2,ii 1] 62 rfl rfl (by omega) (AllP.mem ⟨.inr ⟨rfl,rfl⟩,trivial⟩) (fun x hx=>by cases hx) ?_
 refine Run.of_wpK (hc _ _ _ _ Try.func41) 100 _ ?_
 conv=>whnf
 refine ⟨fun ρ w' hW _=>⟨(SV.opq 1).conc ρ,rfl,hW.toExt,?_⟩⟩
 exact hW.ownsNew (i:=1) (e:=2) rfl (by omega)
def FFi:Mem→List SV→Option (List Nat × SV):=fun _ args=>match args with
 | []=>some ([2,2,62],.agg [ii 0,ii 0,ii 2,ii 1])
 | _=>none
theorem mk_first:Maker Try.prog 41 FFi where
 ent:=ent _ _ Try.func41 (by kernel_rfl) rfl
 cong M M' args hb:=rfl
 run w0 L ρ M S args e m te xs w hW hF hs:=by
  unfold FFi at hF
  split at hF
  case h_2=>cases hF
  simp only [Option.some.injEq,Prod.mk.injEq,List.cons.injEq,SV.agg.injEq,and_true] at hF
  obtain ⟨⟨rfl,rfl,rfl⟩,rfl⟩:=hF
  exact ⟨by simp [SV.scs,SV.sc],first_run w⟩
 runM w0 L ρ M S args pk w hW hF hs:=by
  exfalso
  unfold FFi at hF
  split at hF <;> cases hF
def exRul:Rul:=⟨1,16,8,8,64,128,0,0,9,false⟩
def exPrm:Prm:=⟨0,0,0,5,0,0,0,0⟩
def exS:List Syn:=[⟨-1,0,5,1⟩,⟨-2,1,5,1⟩,⟨0,1,2,1⟩]
def exNet:Net:=⟨[exPrm,exPrm],2,exS⟩
theorem example_spec:BSpec Try.prog 33 [] [] 0 [] (.tup [.agg [.opq 0,ii 2,.opq 1],.agg (exRul.vals.map .v)]) [(0,.row 8 2 (([exPrm,exPrm].flatMap Prm.vals).map .v) 60),(1,.row 4 3 ((exS.flatMap Syn.vals).map .v) 55)] 2:=by
 have hc : ∀ w L' rd,(∀ p,rd=some p→p∈L')→Cx.ok ⟨Try.prog,tab,[],33,Try.f33,[],w,L',rd⟩:=fun w L' rd h=>⟨tab_ok,trivial,Try.func33,mixed,h⟩
 refine BSpec.start (tab:=tab) (pf:=[]) (cuts:=[]) Try.func33 rfl trivial rfl fun w L0 plp hL hLB hcov=>Run.of_wpK (hc w L0 none (fun _ h=>by cases h)) 20 _ ?_
 conv=>whnf
 refine Run.slcRowE (T':=[(0,.ptr 1 0),(1,.ptr 2 0),(7,.opq 6),(11,.slc 5 0 3 3)]) (M':=[(0,.pin plp),(1,.cells [.v (.slice none 0 0),ii 0,.v (.slice none 0 0)] 25),(2,.cells [ii 0,ii 0,ii 0,ii 0,ii 0,ii 0,ii 0,ii 0,ii 0,.v (.bool false)] 36),(5,.cells ((exS.flatMap Syn.vals).map .v) 55)]) 4 8 2 (([exPrm,exPrm].flatMap Prm.vals).map .v) 60 rfl rfl (by omega) (AllP.mem ⟨.inl rfl,.inl rfl,.inr ⟨rfl,rfl⟩,.inl rfl,trivial⟩) (AllP.mem ⟨⟨rfl,(show 0≠4 by decide)⟩,⟨rfl,(show 1≠4 by decide)⟩,⟨rfl,(show 2≠4 by decide)⟩,⟨rfl,(show 5≠4 by decide)⟩,trivial⟩) ?_
 refine Run.slcRowE (T':=[(0,.ptr 1 0),(1,.ptr 2 0),(7,.opq 6),(11,.opq 7)]) (M':=[(6,.row 8 2 (([exPrm,exPrm].flatMap Prm.vals).map .v) 60),(0,.pin plp),(1,.cells [.v (.slice none 0 0),ii 0,.v (.slice none 0 0)] 25),(2,.cells [ii 0,ii 0,ii 0,ii 0,ii 0,ii 0,ii 0,ii 0,ii 0,.v (.bool false)] 36)]) 5 4 3 ((exS.flatMap Syn.vals).map .v) 55 rfl rfl (by omega) (AllP.mem ⟨.inl rfl,.inl rfl,.inl rfl,.inr ⟨rfl,rfl⟩,trivial⟩) (AllP.mem ⟨⟨rfl,(show 6≠5 by decide)⟩,⟨rfl,(show 0≠5 by decide)⟩,⟨rfl,(show 1≠5 by decide)⟩,⟨rfl,(show 2≠5 by decide)⟩,trivial⟩) ?_
 refine Run.of_wpK (hc w L0 none (fun _ h=>by cases h)) 100 _ ?_
 conv=>whnf
 refine SpecR.introQ (rq [(0,6),(1,7)]) (fun i hi=>absurd hi (by omega)) ?_ (Widens.refl _ _) hLB (by decide) hcov rfl rfl (by simp [SV.sc,SV.scs,scs_v]) ?_
 ·intro i hi j hj hne
  have inj : ∀ i,i<2 → ∀ j,j<2→i≠j→rq [(0,6),(1,7)] i≠rq [(0,6),(1,7)] j:=by decide
  exact inj i hi j hj hne
 ·exact ⟨⟨congrArg some (oren_fix (S:=fun _=>False) (fun i hi=>hi.elim) (o := .row 8 2 (([exPrm,exPrm].flatMap Prm.vals).map .v) 60) (scs_v _ _)).symm,by omega,scs_v _ _⟩,⟨congrArg some (oren_fix (S:=fun _=>False) (fun i hi=>hi.elim) (o := .row 4 3 ((exS.flatMap Syn.vals).map .v) 55) (scs_v _ _)).symm,by omega,scs_v _ _⟩,trivial⟩
theorem same_run (vA vB : Value) (a b : List Evt) (w : World) (hA : RowsAt w vA 2 a.length (a.flatMap Evt.vals)) (hB : RowsAt w vB 2 b.length (b.flatMap Evt.vals)) (hl : a.length ≤ 1000000) :
    Calls Try.prog 22 #[vA, vB] w fun e w' => e = .returned (.bool (decide (a = b))) ∧ Ext w w' := by
  have hc : ∀ L, Cx.ok ⟨Try.prog, tab, [], 22, Try.f22, [], w, L, none⟩ := fun L => ⟨tab_ok, trivial, Try.func22, mixed, fun _ h => by cases h⟩
  have hrows : AllP (fun x : Value × Nat × Nat × List Value => RowsAt w x.1 x.2.1 x.2.2.1 x.2.2.2) [(vA, 2, a.length, a.flatMap Evt.vals), (vB, 2, b.length, b.flatMap Evt.vals)] := ⟨hA, hB, trivial⟩
  refine Run.startW Try.func22 rfl _ hrows [.opq 0, .opq 1] [vA, vB] [(0, .rwin 2 a.length (a.flatMap Evt.vals)), (1, .rwin 2 b.length (b.flatMap Evt.vals))] 2 rfl rfl
    (by show [(SV.opq 0).conc _, (SV.opq 1).conc _] = _; rw [conc_rows hrows (k := 0) rfl, conc_rows hrows (k := 1) rfl]) (by simp [SV.scs, SV.sc]) rfl (Run.of_wpK (hc _) 1000 _ ?_)
  conv => whnf
  cases e1 : ((a.length : Int) != (b.length : Int))
  case true =>
    conv => whnf
    have e1' : a ≠ b := fun h => by rw [h] at e1; simp at e1
    exact ⟨fun ρ w' hW _ => ⟨by rw [decide_eq_false e1']; rfl, hW.toExt⟩⟩
  have hlen : a.length = b.length := by have : (a.length : Int) = (b.length : Int) := by simpa using e1
                                        omega
  conv => whnf
  refine Run.trim (T' := [(0, .opq 0), (1, .opq 1), (5, ii ((0 : Nat) : Int))]) (M' := [(0, .rwin 2 a.length (a.flatMap Evt.vals)), (1, .rwin 2 b.length (b.flatMap Evt.vals))]) 2 ⟨⟨rfl, (show 0 < 2 by decide)⟩, ⟨rfl, (show 1 < 2 by decide)⟩, ⟨rfl, trivial⟩, trivial⟩ ⟨⟨rfl, by omega, trivial⟩, ⟨rfl, by omega, trivial⟩, trivial⟩ (fun q hq => by cases hq) ?_
  refine Run.upToJ (T := fun i => [(0, .opq 0), (1, .opq 1), (5, ii (i : Int))]) (M := fun _ => [(0, .rwin 2 a.length (a.flatMap Evt.vals)), (1, .rwin 2 b.length (b.flatMap Evt.vals))]) (fun i => ∀ j (h : j < a.length) (h' : j < b.length), j < i → a[j] = b[j]) a.length (fun j h h' hj => absurd hj (by omega)) ?_ ?_
  · intro i hi hJ ih
    have hi2 : i < b.length := by omega
    refine Run.of_wpK (hc _) 1000 _ ?_
    conv => whnf
    rw [decide_eq_true (show (i : Int) < (a.length : Int) by omega)]
    conv => whnf
    refine Run.draw (hc _) 9 ?_
    rw [show upto 0 9 = upto 0 3 ++ (upto 3 1 ++ (upto 4 3 ++ (upto 7 1 ++ upto 8 1))) from rfl]
    simp only [drawK_app]
    conv => whnf
    refine ⟨by omega, ?_⟩
    conv => whnf
    rw [opF_loadW (f := Evt.vals) (l := a) i rfl rfl rfl rfl rfl Evt.vlen (by rw [idx_nat]) hi]
    conv => whnf
    refine ⟨by omega, ?_⟩
    conv => whnf
    rw [opF_loadW (f := Evt.vals) (l := b) i rfl rfl rfl rfl rfl Evt.vlen (by rw [idx_nat]) hi2]
    conv => whnf
    refine ⟨by kernel_rfl, ?_⟩
    refine Run.of_wpK (hc _) 1000 _ ?_
    conv => whnf
    cases e2 : (!(a[i].tick == b[i].tick && (a[i].id == b[i].id && true)))
    case true =>
      conv => whnf
      have hne : a ≠ b := fun h => by subst h; simp at e2
      exact ⟨fun ρ w' hW _ => ⟨by rw [decide_eq_false hne]; rfl, hW.toExt⟩⟩
    have heq : a[i] = b[i] := by
      have h1 : a[i].tick = b[i].tick ∧ a[i].id = b[i].id := by simpa using e2
      cases ha : a[i] with
      | mk t1 i1 => cases hb : b[i] with
        | mk t2 i2 => rw [ha, hb] at h1; simp only at h1; rw [h1.1, h1.2]
    conv => whnf
    exact Run.trim (T' := [(0, .opq 0), (1, .opq 1), (5, ii ((i + 1 : Nat) : Int))]) (M' := [(0, .rwin 2 a.length (a.flatMap Evt.vals)), (1, .rwin 2 b.length (b.flatMap Evt.vals))]) 2 ⟨⟨rfl, (show 0 < 2 by decide)⟩, ⟨rfl, (show 1 < 2 by decide)⟩, ⟨congrArg some (congrArg ii (wrap_succ (by omega))), trivial⟩, trivial⟩ ⟨⟨rfl, by omega, trivial⟩, ⟨rfl, by omega, trivial⟩, trivial⟩ (fun q hq => by cases hq) (ih fun j h h' hj => by
      by_cases e : j = i
      · subst e; exact heq
      · exact hJ j h h' (by omega))
  · intro hJ
    refine Run.of_wpK (hc _) 1000 _ ?_
    conv => whnf
    rw [decide_eq_false (show ¬ (a.length : Int) < (a.length : Int) by omega)]
    conv => whnf
    have hab : a = b := List.ext_getElem hlen fun i h1 h2 => hJ i h1 h2 h1
    exact ⟨fun ρ w' hW _ => ⟨by rw [decide_eq_true hab]; rfl, hW.toExt⟩⟩
end Go.Proofs.Ytnnlpdgnlccbjaa
