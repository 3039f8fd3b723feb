/-
  Laws of the small executor, and walks of the functions that the statement reaches (part 12 of several, put together out of smaller texts).
  The conditions stand with each law.
-/
import Derived.ProofKit
import Derived.OpenShut
import Derived.ChangeOld
import Derived.Below
import Derived.Lib.SmallJoins
import Derived.Test.YtnnlpdgnlccbjaaMPk
namespace Go.Proofs.Ytnnlpdgnlccbjaa
open Go.Sx
open Go.ChangeShapes Go.WideShapes Go.ChangeAt Go.RowKit Go.Deep Go.Joins
set_option maxRecDepth 100000
theorem Ext.below {w w':World} (h:Ext w w'):Below w.heap.size w w':=⟨h.os,h.tape,h.output,h.size,h.keep⟩
theorem laidOut:laidOutB Try.prog=true:=by kernel_rfl
section
variable {H:Type} {enc:TypeId × Value→H} {W:World} {base b0:Nat} {spare:Nat→Bool} {held:Bool} {r:Reach} {v:Value} {d:DataW H} {pl:List MemPlace}
theorem el_rul {n:Nat} {cs:List Value} {y:DataW H × List MemPlace} (h:DataW.trod enc Try.prog W base spare held n 36 cs=some y) : ∃ p:Rul,cs=p.vals:=by
 obtain ⟨xs,m,_,hx,hlen,hxl,hg⟩:=DataW.trod_struct Try.underlying36 h
 have hC:Try.prog.cellsOf 36=10:=by kernel_rfl
 rw [hC] at hlen
 clear hx
 match cs,hlen with
 | [c0,c1,c2,c3,c4,c5,c6,c7,c8,c9],_ =>
  match xs,hxl with
  | [y0,y1,y2,y3,y4,y5,y6,y7,y8,y9],_ =>
   have h1:Try.prog.cellsOf 3=1:=by kernel_rfl
   have h2:Try.prog.cellsOf 4=1:=by kernel_rfl
   have g0:DataW.trod enc Try.prog W base spare held m 3 [c0]=some y0:=by simpa [h1] using hg 0 _ rfl
   have g1:DataW.trod enc Try.prog W base spare held m 3 [c1]=some y1:=by simpa [h1] using hg 1 _ rfl
   have g2:DataW.trod enc Try.prog W base spare held m 3 [c2]=some y2:=by simpa [h1] using hg 2 _ rfl
   have g3:DataW.trod enc Try.prog W base spare held m 3 [c3]=some y3:=by simpa [h1] using hg 3 _ rfl
   have g4:DataW.trod enc Try.prog W base spare held m 3 [c4]=some y4:=by simpa [h1] using hg 4 _ rfl
   have g5:DataW.trod enc Try.prog W base spare held m 3 [c5]=some y5:=by simpa [h1] using hg 5 _ rfl
   have g6:DataW.trod enc Try.prog W base spare held m 3 [c6]=some y6:=by simpa [h1] using hg 6 _ rfl
   have g7:DataW.trod enc Try.prog W base spare held m 3 [c7]=some y7:=by simpa [h1] using hg 7 _ rfl
   have g8:DataW.trod enc Try.prog W base spare held m 3 [c8]=some y8:=by simpa [h1] using hg 8 _ rfl
   have g9:DataW.trod enc Try.prog W base spare held m 4 [c9]=some y9:=by simpa [h2] using hg 9 _ rfl
   obtain ⟨n0,e0,_,w0⟩:=DataW.trod_int Try.underlying3 g0
   obtain ⟨n1,e1,_,w1⟩:=DataW.trod_int Try.underlying3 g1
   obtain ⟨n2,e2,_,w2⟩:=DataW.trod_int Try.underlying3 g2
   obtain ⟨n3,e3,_,w3⟩:=DataW.trod_int Try.underlying3 g3
   obtain ⟨n4,e4,_,w4⟩:=DataW.trod_int Try.underlying3 g4
   obtain ⟨n5,e5,_,w5⟩:=DataW.trod_int Try.underlying3 g5
   obtain ⟨n6,e6,_,w6⟩:=DataW.trod_int Try.underlying3 g6
   obtain ⟨n7,e7,_,w7⟩:=DataW.trod_int Try.underlying3 g7
   obtain ⟨n8,e8,_,w8⟩:=DataW.trod_int Try.underlying3 g8
   obtain ⟨n9,e9,_⟩:=DataW.trod_bool Try.underlying4 g9
   simp only [List.cons.injEq,and_true] at e0 e1 e2 e3 e4 e5 e6 e7 e8 e9
   subst e0 e1 e2 e3 e4 e5 e6 e7 e8 e9
   exact ⟨⟨n0,n1,n2,n3,n4,n5,n6,n7,n8,n9⟩,rfl⟩
theorem open_rul (hv:Value.okWide Try.prog W r b0 36 v) (h:DataW.Trod enc Try.prog W base spare held 36 v d pl) : ∃ p:Rul,v=p.sv.conc env0:=by
 obtain ⟨cs,rfl,hsz⟩:=okWide_struct Try.underlying36 hv
 obtain ⟨l⟩:=cs
 obtain ⟨fuel,hf⟩:=h
 obtain ⟨p,hp⟩:=el_rul hf
 simp [Value.cells] at hp
 subst hp
 exact ⟨p,rfl⟩
end
end Go.Proofs.Ytnnlpdgnlccbjaa
namespace Go.Proofs.Ytnnlpdgnlccbjaa
open Go.Sx
set_option maxRecDepth 100000
set_option maxHeartbeats 4000000
end Go.Proofs.Ytnnlpdgnlccbjaa
namespace Go.Proofs.Ytnnlpdgnlccbjaa
open Go.Sx
set_option maxRecDepth 100000
set_option maxHeartbeats 8000000
end Go.Proofs.Ytnnlpdgnlccbjaa
namespace Go.Proofs.Ytnnlpdgnlccbjaa
open Go.Sx
set_option maxRecDepth 100000
set_option maxHeartbeats 8000000
/-- The inputs that have events in a tick. -/
def atStep (t:Int) (a:List Int) (e:Evt):List Int:=if (e.tick==t)=true then a++[e.id] else a
def atIn (l:List Evt) (t:Int):List Int:=l.foldl (atStep t) []
theorem atIn_eq (l:List Evt) (t:Int):atIn l t=(l.filter fun e=>e.tick==t).map (·.id):=by
 have : ∀ (l:List Evt) (a:List Int),l.foldl (atStep t) a=a++(l.filter fun e=>e.tick==t).map (·.id):=by
  intro l
  induction l with
  | nil=>intro a; simp
  | cons e l ih =>
   intro a
   rw [List.foldl_cons,ih]
   unfold atStep
   cases h:e.tick==t
   ·simp [h]
   ·simp [h]
 unfold atIn
 simpa using this l []
theorem nAt_split {t:Int} : ∀ {m:List Evt},m.Pairwise (fun a b=>a.tick≤b.tick)→(∀ e∈m,t≤e.tick)→m.take (nAt t m)=m.filter (fun e=>e.tick==t)∧m.drop (nAt t m)=m.filter (fun e=>decide (t+1≤e.tick))
 | [],_,_=>⟨rfl,rfl⟩
 | e::m,hp,ht=>by
  obtain ⟨h1,h2⟩:=List.pairwise_cons.1 hp
  obtain ⟨i1,i2⟩:=nAt_split h2 (fun a ha=>ht a (List.mem_cons_of_mem _ ha))
  unfold nAt
  by_cases h:e.tick=t
  ·rw [if_pos h,List.take_succ_cons,List.drop_succ_cons,i1,i2]
   constructor
   ·simp [h]
   ·rw [List.filter_cons,if_neg (by simp; omega)]
  ·rw [if_neg h]
   have h3:t<e.tick:=by have:=ht e (List.mem_cons_self ..); omega
   have h4 : ∀ a∈m,t<a.tick:=fun a ha=>by have:=h1 a ha; omega
   refine ⟨?_,?_⟩
   ·rw [List.take_zero]
    symm
    rw [List.filter_eq_nil_iff]
    intro a ha
    rcases List.mem_cons.1 ha with rfl | ha
    ·simp; omega
    ·have:=h4 a ha; simp; omega
   ·rw [List.drop_zero]
    symm
    rw [List.filter_eq_self]
    intro a ha
    rcases List.mem_cons.1 ha with rfl | ha
    ·simp; omega
    ·have:=h4 a ha; simp; omega
theorem evR_filter {l:List Evt} (hp:l.Pairwise (fun a b=>a.tick≤b.tick)) (h0 : ∀ e∈l,0≤e.tick) : ∀ i:Nat,evR l i=l.filter (fun e=>decide ((i:Int)≤e.tick))
 | 0=>by
  symm
  show l.filter _=l
  rw [List.filter_eq_self]
  intro a ha
  have:=h0 a ha
  simpa using this
 | i+1=>by
  have ih:=evR_filter hp h0 i
  have h1:(evR l i).Pairwise (fun a b=>a.tick≤b.tick):=by rw [ih]; exact hp.filter _
  have h2 : ∀ e∈evR l i,(i:Int)≤e.tick:=fun e he=>by rw [ih] at he; simpa using (List.mem_filter.1 he).2
  unfold evR
  rw [(nAt_split h1 h2).2,ih,List.filter_filter]
  apply List.filter_congr
  intro a _
  have:(((i+1:Nat)):Int)=(i:Int)+1:=rfl
  rw [this]
  by_cases h:(i:Int)+1≤a.tick
  ·simp [h]; omega
  ·simp [h]
theorem trIn_eq {l:List Evt} (hp:l.Pairwise (fun a b=>a.tick≤b.tick)) (h0 : ∀ e∈l,0≤e.tick) (i:Nat):trIn l i=atIn l i:=by
 have ih:=evR_filter hp h0 i
 have h1:(evR l i).Pairwise (fun a b=>a.tick≤b.tick):=by rw [ih]; exact hp.filter _
 have h2 : ∀ e∈evR l i,(i:Int)≤e.tick:=fun e he=>by rw [ih] at he; simpa using (List.mem_filter.1 he).2
 unfold trIn idsT
 rw [(nAt_split h1 h2).1,ih,List.filter_filter,atIn_eq]
 congr 1
 apply List.filter_congr
 intro a _
 cases h:a.tick==(i:Int)
 ·simp
 ·have:a.tick=(i:Int):=by simpa using h
  simp [this]
end Go.Proofs.Ytnnlpdgnlccbjaa
namespace Go.Proofs.Ytnnlpdgnlccbjaa
open Go.Sx
set_option maxRecDepth 100000
set_option maxHeartbeats 4000000
end Go.Proofs.Ytnnlpdgnlccbjaa
namespace Go.Proofs.Ytnnlpdgnlccbjaa
open Go.Sx
set_option maxRecDepth 100000
set_option maxHeartbeats 8000000
end Go.Proofs.Ytnnlpdgnlccbjaa
namespace Go.Proofs.Ytnnlpdgnlccbjaa
open Go.Sx
set_option maxRecDepth 100000
set_option maxHeartbeats 2000000
theorem pw_of_adj {α : Type} {R : α → α → Prop} (tr : ∀ a b c,R a b→R b c→R a c) : ∀ (l:List α),(∀ i (h:i+1<l.length),R (l[i]'(by omega)) l[i+1])→l.Pairwise R
 | [],_ => .nil
 | [a],_=>List.pairwise_singleton _ _
 | a::b::l,h=>by
  have ih:=pw_of_adj tr (b::l) (fun i hi=>h (i+1) (by simpa using hi))
  have hab:R a b:=h 0 (by simp)
  refine .cons (fun x hx => ?_) ih
  rcases List.mem_cons.1 hx with rfl | hx
  ·exact hab
  ·exact tr _ _ _ hab ((List.pairwise_cons.1 ih).1 x hx)
structure EvsOK (inp:Int) (l:List Evt):Prop where
 t0 : ∀ e∈l,0≤e.tick
 id : ∀ e∈l,0≤e.id∧e.id≤inp-1
 pw:l.Pairwise (fun a b=>a.tick<b.tick∨a.tick=b.tick∧a.id<b.id)
theorem evs_ok {inp:Int} {l:List Evt} (h:evsChk inp 10000 l=0) (h0:0≤inp∧inp≤256):EvsOK inp l:=by
 unfold evsChk at h
 split at h
 ·cases h
 have hz : ∀ i,i<l.length→evAt inp 10000 l i=0:=fun i hi=>by
  have:=firstE_zero h i (by simpa using hi)
  simpa only [List.getElem_range] using this
 have e2:W (inp-1)=inp-1:=W_id (by omega) (by omega)
 have hi1 : ∀ i (hi:i<l.length),0≤l[i].tick∧0≤l[i].id∧l[i].id≤inp-1:=fun i hi=>by
  have:=hz i hi
  unfold evAt at this
  have e:l.getD i evt0=l[i]:=by simp [List.getD_eq_getElem?_getD,hi]
  rw [e,e2] at this
  split at this
  ·cases this
  rename_i hw
  simp only [Bool.not_eq_false,Bool.and_eq_true,wi_iff] at hw
  omega
 refine ⟨fun e he => ?_,fun e he => ?_,pw_of_adj (fun a b c h1 h2=>by omega) l fun i hi => ?_⟩
 ·obtain ⟨i,hi,rfl⟩:=List.getElem_of_mem he; exact (hi1 i hi).1
 ·obtain ⟨i,hi,rfl⟩:=List.getElem_of_mem he; exact (hi1 i hi).2
 ·have:=hz (i+1) hi
  unfold evAt at this
  have ea:l.getD i evt0=l[i]:=by simp [List.getD_eq_getElem?_getD,show i<l.length by omega]
  have eb:l.getD (i+1) evt0=l[i+1]:=by simp [List.getD_eq_getElem?_getD,hi]
  rw [Nat.add_sub_cancel,ea,eb] at this
  split at this
  ·cases this
  split at this
  ·cases this
  ·rename_i h3
   omega
theorem EvsOK.le {inp:Int} {l:List Evt} (h:EvsOK inp l):l.Pairwise (fun a b=>a.tick≤b.tick):=h.pw.imp (by intro a b h; omega)
theorem prep_evs {inp:Int} {l:List Evt} {K:Int} (h:prepChk ⟨[prm1],inp,[]⟩ l K 10000=0):evsChk inp 10000 l=0:=by
 unfold prepChk at h
 split at h
 ·rename_i h1; exact absurd h h1
 split at h
 ·cases h
 exact h
theorem fdiv_pow {a:Int} (h0:0≤a) (k:Nat):0≤a.fdiv (2 ^ k)∧a.fdiv (2 ^ k)≤a:=by
 have hp:(0:Int)<2 ^ k:=by exact_mod_cast Nat.pos_of_ne_zero (by simp)
 rw [Int.fdiv_eq_ediv_of_nonneg a (by omega)]
 exact ⟨Int.ediv_nonneg h0 (by omega),Int.ediv_le_self _ h0⟩
/-- The two parts of the change of step 3. -/
theorem chg_parts {r:Rul} (hr:GoodR r) {m:Mrk} (h0:0≤m.x∧m.x≤65535) (h1:0≤m.y∧m.y≤65535) (sp ar:Bool) :
  ∃ a b:Int,chgM r m sp ar=a-b∧0≤a∧a≤16711425∧0≤b∧b≤16711425∧(r.up=0→a=0)∧(r.down=0→b=0):=by
 have hu:=hr.up
 have hd:=hr.down
 have bu:0≤r.up*m.x∧r.up*m.x≤16711425:=⟨Int.mul_nonneg hu.1 h0.1,Int.le_trans (Int.mul_le_mul hu.2 h0.2 h0.1 (by decide)) (by decide)⟩
 have bd:0≤r.down*m.y∧r.down*m.y≤16711425:=⟨Int.mul_nonneg hd.1 h1.1,Int.le_trans (Int.mul_le_mul hd.2 h1.2 h1.1 (by decide)) (by decide)⟩
 have e1:W (r.up*m.x)=r.up*m.x:=W_id (by omega) (by omega)
 have e2:W (r.down*m.y)=r.down*m.y:=W_id (by omega) (by omega)
 have f1:=fdiv_pow bu.1 (min r.shift.toNat 64)
 have f2:=fdiv_pow bd.1 (min r.shift.toNat 64)
 have z1:r.up=0→(r.up*m.x).fdiv (2 ^ min r.shift.toNat 64)=0:=fun h=>by rw [h,Int.zero_mul,Int.zero_fdiv]
 have z2:r.down=0→(r.down*m.y).fdiv (2 ^ min r.shift.toNat 64)=0:=fun h=>by rw [h,Int.zero_mul,Int.zero_fdiv]
 unfold chgM
 simp only [e1,e2]
 generalize (r.up*m.x).fdiv (2 ^ min r.shift.toNat 64)=A at f1 z1
 generalize (r.down*m.y).fdiv (2 ^ min r.shift.toNat 64)=B at f2 z2
 have g1:W (0+A)=A:=by rw [Int.zero_add]; exact W_id (by omega) (by omega)
 have g2:W (A-B)=A-B:=W_id (by omega) (by omega)
 have g3:W (0-B)=0-B:=W_id (by omega) (by omega)
 cases sp <;> cases ar <;> simp only [if_true,if_false,Bool.false_eq_true,g1,g2,g3]
 ·exact ⟨0,0,rfl,by omega,by omega,by omega,by omega,fun _=>rfl,fun _=>rfl⟩
 ·exact ⟨0,B,rfl,by omega,by omega,f2.1,by omega,fun _=>rfl,z2⟩
 ·exact ⟨A,0,by omega,f1.1,by omega,by omega,by omega,z1,fun _=>rfl⟩
 ·exact ⟨A,B,rfl,f1.1,by omega,f2.1,by omega,z1,z2⟩
end Go.Proofs.Ytnnlpdgnlccbjaa
namespace Go.Proofs.Ytnnlpdgnlccbjaa
open Go.Sx
set_option maxRecDepth 100000
set_option maxHeartbeats 2000000
def pPrm:Prm:=⟨0,0,0,1000,0,0,-1000,0⟩
def pSyn (w:Int):List Syn:=[⟨-1,0,w,1⟩,⟨-2,0,10000,1⟩]
def pNet (w:Int):Net:=⟨[pPrm],2,pSyn w⟩
def pX (r:Rul) (w:Int):Lnt:=⟨pNet w,[r],[0,-1]⟩
def pEv (g:Int):List Evt:=if g<0 then [⟨60+g,1⟩,⟨60,0⟩] else [⟨60,0⟩,⟨60+g,1⟩]
theorem pair_prep {g:Int} (h0 : -50≤g) (h1:g≤50):prepChk ⟨[prm1],2,[]⟩ (pEv g) 150 10000=0:=by
 obtain ⟨k,rfl⟩ : ∃ k:Nat,g=(k:Int)-50:=⟨(g+50).toNat,by omega⟩
 have : ∀ k:Nat,k<101→prepChk ⟨[prm1],2,[]⟩ (pEv ((k:Int)-50)) 150 10000=0:=by decide +kernel
 exact this k (by omega)
theorem pair_chk {r:Rul} {w:Int} (hr:rchk r=0) (h0:r.lo≤w) (h1:w≤r.hi):learnChk (pNet w) [r] [0,-1]=0:=by
 have hg:=rchk_good.1 hr
 have hb:=hg.bounds
 have hw:wi w (-32768) 32768=true:=wi_iff.2 ⟨by omega,by omega⟩
 have hw2:wi w r.lo r.hi=true:=wi_iff.2 ⟨h0,h1⟩
 have e1:netChk (pNet w)=0:=by
  have a:synOk 1 2 ⟨-1,0,w,1⟩=true:=by
   show (srcB 1 2 (-1)&&wi 0 0 (W ((1:Nat)-1:Int))&&wi w (-32768) 32768&&wi 1 1 16)=true
   rw [hw]; decide
  have b:synOk 1 2 ⟨-2,0,10000,1⟩=true:=by decide
  show (if firstE chk [pPrm]=0 then firstE (fun s=>if synOk 1 2 s then 0 else 3) (pSyn w) else firstE chk [pPrm])=0
  rw [if_pos (by decide)]
  unfold pSyn
  rw [firstE,if_pos (by simp [a]),firstE,if_pos (by simp [b])]; rfl
 have e2:firstE rchk [r]=0:=by rw [firstE,if_pos hr]; rfl
 unfold learnChk
 rw [if_neg (by rw [e1]; simp),if_neg (by simp),if_neg (by rw [e2]; simp),if_neg (by simp [pNet,pSyn])]
 have a:plErr [r] (0,⟨-1,0,w,1⟩)=0:=by
  show (if wi 0 (-1) (W ((1:Nat)-1:Int))=false then (3:Int) else if (0:Int)≤0 then (if wi w r.lo r.hi then 0 else 21) else 0)=0
  rw [hw2]; rfl
 have b:plErr [r] (-1,⟨-2,0,10000,1⟩)=0:=by
  show (if wi (-1) (-1) (W ((1:Nat)-1:Int))=false then (3:Int) else if (0:Int) ≤ -1 then _ else 0)=0
  rw [if_neg (by decide),if_neg (by decide)]
 show firstE (plErr [r]) [(0,⟨-1,0,w,1⟩),(-1,⟨-2,0,10000,1⟩)]=0
 rw [firstE,if_pos a,firstE,if_pos b]; rfl
def trF (r:Rul) (t:Int):Int:=W ((W (t*r.keep)).tdiv 256)
def trT (r:Rul) (e:Nat):Nat→Int
 | 0=>0
 | i+1=>if i=e then r.gain else trF r (trT r e i)
theorem trF_zero (r:Rul):trF r 0=0:=by unfold trF; simp; decide
theorem trT_low (r:Rul) (e:Nat) : ∀ i,i≤e→trT r e i=0
 | 0,_=>rfl
 | i+1,h=>by rw [trT,if_neg (by omega),trT_low r e i (by omega),trF_zero]
theorem trT_high (r:Rul) (e:Nat) : ∀ k,trT r e (e+1+k)=trN r.keep k r.gain
 | 0=>by show (if e=e then r.gain else _)=r.gain; rw [if_pos rfl]
 | k+1=>by
  show (if e+1+k=e then r.gain else trF r (trT r e (e+1+k)))=_
  rw [if_neg (by omega),trT_high r e k]; rfl
/-- A trace, behind a tick. -/
theorem trT_next {r:Rul} (hr:GoodR r) (e i:Nat) (b:Bool) (hb:b=true↔i=e):(if b=true then min 65535 (W (trF r (trT r e i)+r.gain)) else trF r (trT r e i))=trT r e (i+1):=by
 have hg:=hr.gain
 show _=if i=e then r.gain else trF r (trT r e i)
 by_cases h:i=e
 ·rw [if_pos (hb.2 h),if_pos h,trT_low r e i (by omega),trF_zero,show W (0+r.gain)=r.gain by rw [Int.zero_add]; exact W_id (by omega) (by omega)]
  omega
 ·rw [if_neg (fun e=>h (hb.1 e)),if_neg h]
theorem arrB_fr (sm:Nat→List Int) (t:Int) (a b c d a2 b2:Int):arrB sm t ⟨c,a,b,d⟩=arrB sm t ⟨c,a2,b2,d⟩:=rfl
theorem pair_lA (r:Rul) (w:Int) (s:Lst) (a b:Mrk) (hm:s.m=[a,b]) (a0 a1:Bool) (h0:arrB s.sm s.tick ⟨-1,0,w,1⟩=a0) (h1:arrB s.sm s.tick ⟨-2,0,10000,1⟩=a1) :
  lA (pX r w) s=([a0,a1],[if a1=true then W ((if a0=true then W (0+a.w) else 0)+b.w) else if a0=true then W (0+a.w) else 0]):=by
 show aStep s.sm s.tick (pSyn w) s.m (aStep s.sm s.tick (pSyn w) s.m ([false,false],[0]) 0) 1=_
 have e0:aStep s.sm s.tick (pSyn w) s.m ([false,false],[0]) 0=([a0,false],[if a0=true then W (0+a.w) else 0]):=by
  unfold aStep
  show (if arrB s.sm s.tick ⟨-1,0,w,1⟩=true then _ else _)=_
  rw [h0,hm]
  cases a0 <;> rfl
 rw [e0]
 unfold aStep
 show (if arrB s.sm s.tick ⟨-2,0,10000,1⟩=true then _ else _)=_
 rw [h1,hm]
 cases a1 <;> rfl
theorem pair_lB (r:Rul) (w:Int) (s:Lst) (q:Ste) (hs:s.st=[q]) (arr:List Bool) (c:Int) (hA:lA (pX r w) s=(arr,[c])):lB (pX r w) s=([stepS pPrm q c],if stepB pPrm q c=true then ([0],[0]) else ([],[])):=by
 unfold lB
 rw [hA,hs]
 show ([stepS pPrm q c],if stepB pPrm q c=true then ([]++[((0:Nat):Int)],addS [] ((0:Nat):Int)) else ([],[]))=_
 cases stepB pPrm q c <;> rfl
theorem pair_step {q:Ste} {c:Int} (hq : -510≤q.v∧q.v≤510) (hc : -255≤c∧c≤10255):stepV pPrm q c=max (-1000) (q.v+c):=by
 unfold stepV
 have e1:leakW pPrm.lk pPrm.leak q.v=q.v:=by
  show (if (0:Int)=0 then q.v else if (0:Int)=1 then (if q.v<0 then min 0 (W (q.v+0)) else max 0 (W (q.v-0))) else W (q.v-W ((W (q.v*0)).tdiv 256)))=q.v
  rw [if_pos rfl]
 have e2:W (q.v+pPrm.bias)=q.v:=by show W (q.v+0)=q.v; rw [Int.add_zero]; exact W_id (by omega) (by omega)
 have e3:max (-4194304) (min 4194304 c)=c:=by omega
 rw [e1,e2,e3,W_id (by omega) (by omega)]
 show max (-1000) (min 1048576 (q.v+c))=_
 omega
theorem pair_lR (r:Rul) (w:Int) (hs:r.sum=false) (s:Lst) (a b:Mrk) (hm:s.m=[a,b]) (rw0:List Int) (a0 a1:Bool) (c:Int) (hA:lA (pX r w) s=([a0,a1],[c])) (sp:Bool) (o:List Int × List Int) (hB:(lB (pX r w) s).2=o) (ho:decide ((0:Int)∈o.2)=sp) :
  lR (pX r w) s rw0=[pMark r sp a0 (rw0.getD 0 0) a,b]:=by
 have e1:lP (pX r w) s rw0=[pMark r sp a0 (rw0.getD 0 0) a,b]:=by
  unfold lP
  rw [hA,hB,hm]
  show [pMark r (decide ((0:Int)∈o.2)) a0 (rw0.getD 0 0) a,b]=_
  rw [ho]
 have e2 : ∀ m,sumsL (pX r w).n.S (pX r w).rs (pX r w).pl m=[]:=fun m=>by
  show (if r.sum=true then _ else [])=[]
  rw [if_neg (by rw [hs]; simp)]
 unfold lR
 rw [e2]
 show lP (pX r w) s rw0=_
 exact e1
theorem mem_addS {l:List Int} {a c:Int}:c∈addS l a↔c∈l∨c=a:=by
 unfold addS
 split
 ·rename_i h
  constructor
  ·exact .inl
  ·rintro (h1 | rfl)
   ·exact h1
   ·exact h
 ·simp
theorem mem_sendL {inp:List Int} (hi : ∀ k∈inp,0≤k∧k≤1000000) : ∀ {sp:List Int} {c:Int},c∈sendL sp inp↔c∈sp ∨ ∃ k∈inp,c = -1-k:=by
 induction inp with
 | nil=>intro sp c; simp [sendL]
 | cons a inp ih =>
  intro sp c
  have ha:=hi a (by simp)
  have e:sendL sp (a::inp)=sendL (addS sp (W (-1-a))) inp:=rfl
  rw [e,ih (fun k hk=>hi k (by simp [hk])),mem_addS,W_id (by omega) (by omega)]
  simp only [List.mem_cons,exists_eq_or_imp,or_assoc]
theorem pEv_in {g:Int} (i:Int) (k:Int):k∈atIn (pEv g) i↔(k=0∧i=60)∨(k=1∧i=60+g):=by
 rw [atIn_eq]
 simp only [List.mem_map,List.mem_filter,beq_iff_eq]
 unfold pEv
 split
 ·simp only [List.mem_cons,List.not_mem_nil,or_false]
  constructor
  ·rintro ⟨e,⟨rfl | rfl,h⟩,rfl⟩
   ·exact .inr ⟨rfl,h.symm⟩
   ·exact .inl ⟨rfl,h.symm⟩
  ·rintro (⟨rfl,h⟩ | ⟨rfl,h⟩)
   ·exact ⟨_,⟨.inr rfl,h.symm⟩,rfl⟩
   ·exact ⟨_,⟨.inl rfl,h.symm⟩,rfl⟩
 ·simp only [List.mem_cons,List.not_mem_nil,or_false]
  constructor
  ·rintro ⟨e,⟨rfl | rfl,h⟩,rfl⟩
   ·exact .inl ⟨rfl,h.symm⟩
   ·exact .inr ⟨rfl,h.symm⟩
  ·rintro (⟨rfl,h⟩ | ⟨rfl,h⟩)
   ·exact ⟨_,⟨.inl rfl,h.symm⟩,rfl⟩
   ·exact ⟨_,⟨.inr rfl,h.symm⟩,rfl⟩
/-- What the pair changes. -/
def pWant (r:Rul) (w g:Int):Int:=max r.lo (min r.hi (W (w+(winR r g).1)))
structure PInv (r:Rul) (w g:Int) (e:Nat) (i:Nat) (s:Lst):Prop where
 tick:s.tick=(i:Int)
 st : ∃ V:Int,s.st=[⟨V,0⟩] ∧ -510≤V∧V≤510∧(i≤61→V=0)
 m:s.m=[⟨if i≤61∨i≤e then w else pWant r w g,trT r 61 i,trT r e i,0⟩,⟨10000,0,0,0⟩]
 s0:1≤i→(-1∈s.sm (slotN ((i:Int)-1))↔i=61)
 s1:1≤i→(-2∈s.sm (slotN ((i:Int)-1))↔i=e)
theorem pair_change {r:Rul} (hr:rchk r=0) {g:Int} (h0 : -50≤g) (h1:g≤50) {e:Nat} (he:(e:Int)=61+g) (i:Nat) (w:Int) (hw0:r.lo≤w) (hw1:w≤r.hi) (sp ar:Bool) (hsp:sp=true↔i=e) (har:ar=true↔i=61) :
  max r.lo (min r.hi (W ((if i≤61∨i≤e then w else pWant r w g)+chgM r ⟨if i≤61∨i≤e then w else pWant r w g,trF r (trT r 61 i),trF r (trT r e i),0⟩ sp ar)))=if i+1≤61∨i+1≤e then w else pWant r w g:=by
 have hg:=rchk_good.1 hr
 have hb:=hg.bounds
 have hwin : ∀ n,fadeN r n ⟨0,r.gain,r.gain,0⟩=⟨0,trN r.keep n r.gain,trN r.keep n r.gain,0⟩:=fadeN_eq r r.gain
 have hW:(winR r g).1=chgM r ⟨0,trN r.keep (max g (-g)).toNat r.gain,trN r.keep (max g (-g)).toNat r.gain,0⟩ (decide (0<g)) (decide (g<0)):=by
  unfold winR
  rw [if_neg (by rw [hr]; simp),if_neg (by rw [wi_iff.2 ⟨by omega,by omega⟩]; simp),hwin]
 have c0 : ∀ a b x:Int,chgM r ⟨a,0,x,b⟩ true false=0:=fun a b x=>by
  unfold chgM
  simp only [if_true,Bool.false_eq_true,if_false,Int.mul_zero]
  show W (0+Int.fdiv 0 _)=0
  simp; decide
 have c1 : ∀ a b x:Int,chgM r ⟨a,x,0,b⟩ false true=0:=fun a b x=>by
  unfold chgM
  simp only [if_true,Bool.false_eq_true,if_false,Int.mul_zero]
  show W (0-Int.fdiv 0 _)=0
  simp; decide
 have c2 : ∀ a b:Int,chgM r ⟨a,0,0,b⟩ true true=0:=fun a b=>by
  unfold chgM
  simp only [if_true,Int.mul_zero]
  show W (W (0+Int.fdiv 0 _)-Int.fdiv 0 _)=0
  simp; decide
 have c3 : ∀ m,chgM r m false false=0:=fun m=>by unfold chgM; simp
 have hid:max r.lo (min r.hi (W (w+0)))=w:=by
  rw [Int.add_zero,W_id (by omega) (by omega)]; omega
 have hid2:max r.lo (min r.hi (W (pWant r w g+0)))=pWant r w g:=by
  have h1:r.lo≤pWant r w g∧pWant r w g≤r.hi:=by unfold pWant; omega
  rw [Int.add_zero,W_id (by omega) (by omega)]; omega
 have z : ∀ k,i≤k→trF r (trT r k i)=0:=fun k hk=>by rw [trT_low r k i hk,trF_zero]
 have zh : ∀ k n,i=k+(n+1)→trF r (trT r k i)=trN r.keep (n+1) r.gain:=fun k n hk=>by
  rw [hk,show k+(n+1)=k+1+n by omega,trT_high]; rfl
 by_cases he1:i=e
 ·obtain rfl:=hsp.2 he1
  by_cases h61:i=61
  ·obtain rfl:=har.2 h61
   rw [z 61 (by omega),z e (by omega),c2,if_pos (by omega),if_neg (by omega),hid]
   have hg0:g=0:=by omega
   subst hg0
   unfold pWant
   rw [hW]
   show w=max r.lo (min r.hi (W (w+chgM r _ false false)))
   rw [c3,hid]
  ·have har0:ar=false:=by cases ar; rfl; exact absurd (har.1 rfl) h61
   subst har0
   by_cases hgp:0<g
   ·obtain ⟨n,hn⟩ : ∃ n:Nat,g=((n+1:Nat):Int):=⟨(g-1).toNat,by omega⟩
    rw [if_pos (by omega),if_neg (by omega),zh 61 n (by omega)]
    unfold pWant
    rw [hW,show (max g (-g)).toNat=n+1 by omega,decide_eq_true hgp,decide_eq_false (show ¬ g<0 by omega)]
    rfl
   ·rw [z 61 (by omega),c0,if_pos (by omega),if_pos (by omega),hid]
 ·have hsp0:sp=false:=by cases sp; rfl; exact absurd (hsp.1 rfl) he1
  subst hsp0
  by_cases h61:i=61
  ·obtain rfl:=har.2 h61
   by_cases hgn:g<0
   ·obtain ⟨n,hn⟩ : ∃ n:Nat,-g=((n+1:Nat):Int):=⟨(-g-1).toNat,by omega⟩
    rw [if_pos (by omega),if_neg (by omega),zh e n (by omega)]
    unfold pWant
    rw [hW,show (max g (-g)).toNat=n+1 by omega,decide_eq_false (show ¬ 0<g by omega),decide_eq_true hgn]
    rfl
   ·rw [z e (by omega),c1,if_pos (by omega),if_pos (by omega),hid]
  ·have har0:ar=false:=by cases ar; rfl; exact absurd (har.1 rfl) h61
   subst har0
   rw [c3]
   by_cases h:i≤61∨i≤e
   ·rw [if_pos h,if_pos (by omega),hid]
   ·rw [if_neg h,if_neg (by omega),hid2]
theorem pMark_pair {r:Rul} (h1:r.kind=1) (hf:r.fade=0) (sp ar:Bool) (q w x y:Int):pMark r sp ar q ⟨w,x,y,0⟩=⟨max r.lo (min r.hi (W (w+chgM r ⟨w,trF r x,trF r y,0⟩ sp ar))),if ar=true then min 65535 (W (trF r x+r.gain)) else trF r x,if sp=true then min 65535 (W (trF r y+r.gain)) else trF r y,0⟩:=by
 have e:fadeM r ⟨w,x,y,0⟩=⟨w,trF r x,trF r y,0⟩:=by
  unfold fadeM trF
  show (⟨w,_,_,W ((W (0*r.fade)).tdiv 256)⟩:Mrk)=_
  rw [hf]; rfl
 unfold pMark
 rw [e]
 simp only [if_pos h1]
 cases sp <;> cases ar <;> rfl
theorem pair_inv {r:Rul} (hr:rchk r=0) (h1:r.kind=1) (hs:r.sum=false) {g:Int} (hg0 : -50≤g) (hg1:g≤50) {e:Nat} (he:(e:Int)=61+g) {w:Int} (hw0:r.lo≤w) (hw1:w≤r.hi) : ∀ i:Nat,i≤150 →
  PInv r w g e i (trS (pX r w) (pEv g) [] i)∧trO (pX r w) (pEv g) [] i=if i≤e then [] else [⟨(e:Int),0⟩]:=by
 have hgd:=rchk_good.1 hr
 have hb:=hgd.bounds
 have hf:=hgd.fade1 h1
 have hev:=evs_ok (prep_evs (pair_prep hg0 hg1)) ⟨by decide,by decide⟩
 intro i
 induction i with
 | zero =>
  intro _
  refine ⟨⟨rfl,⟨0,rfl,by omega,by omega,fun _=>rfl⟩,?_,fun h=>absurd h (by omega),fun h=>absurd h (by omega)⟩,by rw [if_pos (by omega)]; rfl⟩
  rw [if_pos (by omega)]; rfl
 | succ i ih =>
  intro hi
  obtain ⟨hI,hO⟩:=ih (by omega)
  obtain ⟨s,hst⟩ : ∃ s,trS (pX r w) (pEv g) [] i=s:=⟨_,rfl⟩
  have e1:trS (pX r w) (pEv g) [] (i+1)=lN (pX r w) s (trIn (pEv g) i) (trRw 1 [] i):=by rw [← hst]; rfl
  have e2:trO (pX r w) (pEv g) [] (i+1)=trO (pX r w) (pEv g) [] i++spk i (lOut (pX r w) s):=by rw [← hst]; rfl
  rw [hst] at hI
  rw [e1,e2,hO,trIn_eq hev.le hev.t0]
  obtain ⟨V,hV,v0,v1,v2⟩:=hI.st
  have hm:=hI.m
  obtain ⟨pw,hpw⟩ : ∃ pw,(if i≤61∨i≤e then w else pWant r w g)=pw:=⟨_,rfl⟩
  have hpb : -255≤pw∧pw≤255:=by
   rw [← hpw]
   split
   ·omega
   ·unfold pWant; omega
  obtain ⟨a0,h0⟩ : ∃ a0,arrB s.sm s.tick ⟨-1,0,w,1⟩=a0:=⟨_,rfl⟩
  obtain ⟨a1,h1'⟩ : ∃ a1,arrB s.sm s.tick ⟨-2,0,10000,1⟩=a1:=⟨_,rfl⟩
  have ha0:a0=true↔i=61:=by
   rw [← h0]
   show (decide ((1:Int)≤s.tick)&&decide ((-1:Int)∈s.sm (slotN (s.tick-1))))=true↔_
   rw [hI.tick]
   by_cases hi1:1≤i
   ·rw [decide_eq_true (show (1:Int)≤(i:Int) by omega),Bool.true_and,decide_eq_true_iff,hI.s0 hi1]
   ·rw [decide_eq_false (show ¬ (1:Int)≤(i:Int) by omega),Bool.false_and]
    exact ⟨fun h=>by simp at h,fun h=>by omega⟩
  have ha1:a1=true↔i=e:=by
   rw [← h1']
   show (decide ((1:Int)≤s.tick)&&decide ((-2:Int)∈s.sm (slotN (s.tick-1))))=true↔_
   rw [hI.tick]
   by_cases hi1:1≤i
   ·rw [decide_eq_true (show (1:Int)≤(i:Int) by omega),Bool.true_and,decide_eq_true_iff,hI.s1 hi1]
   ·rw [decide_eq_false (show ¬ (1:Int)≤(i:Int) by omega),Bool.false_and]
    exact ⟨fun h=>by simp at h,fun h=>by omega⟩
  have hA:=pair_lA r w s _ _ hm a0 a1 h0 h1'
  simp only [hpw] at hA
  obtain ⟨c,hc⟩ : ∃ c,(if a1=true then W ((if a0=true then W (0+pw) else 0)+10000) else if a0=true then W (0+pw) else 0)=c:=⟨_,rfl⟩
  rw [hc] at hA
  have hcv:c=(if a0=true then pw else 0)+(if a1=true then 10000 else 0):=by
   rw [← hc]
   have q1:W (0+pw)=pw:=by rw [Int.zero_add]; exact W_id (by omega) (by omega)
   rw [q1]
   cases a1
   ·simp
   ·simp only [if_true]
    exact W_id (by split <;> omega) (by split <;> omega)
  have hcb : -255≤c∧c≤10255:=by rw [hcv]; constructor <;> (split <;> split <;> omega)
  have hB:=pair_lB r w s _ hV _ c hA
  have hsv:=pair_step (q:=⟨V,0⟩) ⟨v0,v1⟩ hcb
  have hstep:stepB pPrm ⟨V,0⟩ c=a1 ∧ ∃ V2,stepS pPrm ⟨V,0⟩ c=⟨V2,0⟩ ∧ -510≤V2∧V2≤510∧(i+1≤61→V2=0):=by
   unfold stepB stepS
   rw [hsv]
   simp only [show ¬ (0:Int)<0 by omega,if_false]
   show (if max (-1000) (V+c)<1000 then false else true)=a1 ∧ ∃ V2,(if max (-1000) (V+c)<1000 then (⟨max (-1000) (V+c),0⟩:Ste) else ⟨0,0⟩)=⟨V2,0⟩∧_
   cases ha:a1
   ·have hlt:V+c<1000 ∧ -510≤V+c∧V+c≤510∧(i+1≤61→V+c=0):=by
     rw [hcv,ha]
     simp only [Bool.false_eq_true,if_false,Int.add_zero]
     cases h0:a0
     ·simp only [Bool.false_eq_true,if_false,Int.add_zero]
      exact ⟨by omega,by omega,by omega,fun h=>v2 (by omega)⟩
     ·simp only [if_true]
      have:=ha0.1 h0
      have:=v2 (by omega)
      exact ⟨by omega,by omega,by omega,fun h=>by omega⟩
    rw [if_pos (by omega),if_pos (by omega)]
    exact ⟨rfl,_,rfl,by omega,by omega,fun h=>by have:=hlt.2.2.2 h; omega⟩
   ·have hge:1000≤V+c:=by
     rw [hcv,ha]
     simp only [if_true]
     split <;> omega
    rw [if_neg (by omega),if_neg (by omega)]
    exact ⟨rfl,0,rfl,by omega,by omega,fun _=>rfl⟩
  obtain ⟨hsb,V2,hsS,b0,b1,b2⟩:=hstep
  rw [hsb,hsS] at hB
  have hB2:(lB (pX r w) s).2=(if a1=true then ([0],[0]) else ([],[])):=by rw [hB]
  have hR:=pair_lR r w hs s _ _ hm (trRw 1 [] i) a0 a1 c hA a1 _ hB2 (by cases a1 <;> rfl)
  simp only [hpw] at hR
  rw [pMark_pair h1 hf,trT_next hgd 61 i a0 ha0,trT_next hgd e i a1 ha1,← hpw,pair_change hr hg0 hg1 he i w hw0 hw1 a1 a0 ha1 ha0] at hR
  have hin : ∀ k∈atIn (pEv g) (i:Int),0≤k∧k≤1000000:=fun k hk=>by
   rcases (pEv_in _ _).1 hk with ⟨rfl,_⟩ | ⟨rfl,_⟩ <;> decide
  have hsm : ∀ c,c<0→(c∈(lN (pX r w) s (atIn (pEv g) (i:Int)) (trRw 1 [] i)).sm (slotN (((i+1:Nat):Int)-1)) ↔ ∃ k∈atIn (pEv g) (i:Int),c = -1-k):=fun c hc=>by
   have e3:((i+1:Nat):Int)-1=s.tick:=by rw [hI.tick]; omega
   rw [e3]
   show c∈(if slotN s.tick=slotN s.tick then sendL (lB (pX r w) s).2.2 (atIn (pEv g) (i:Int)) else _)↔_
   rw [if_pos rfl,mem_sendL hin,hB2]
   constructor
   ·rintro (h | h)
    ·exfalso
     cases a1
     ·simp at h
     ·simp at h; omega
    ·exact h
   ·exact .inr
  refine ⟨⟨?_,⟨V2,?_,b0,b1,b2⟩,hR,fun _ => ?_,fun _ => ?_⟩,?_⟩
  ·show W (s.tick+1)=_
   rw [hI.tick,W_id (by omega) (by omega)]; omega
  ·show (lB (pX r w) s).1=_
   rw [hB]
  ·rw [hsm (-1) (by omega)]
   constructor
   ·rintro ⟨k,hk,h⟩
    rcases (pEv_in _ _).1 hk with ⟨rfl,h2⟩ | ⟨rfl,h2⟩ <;> omega
   ·intro h
    exact ⟨0,(pEv_in _ _).2 (.inl ⟨rfl,by omega⟩),by omega⟩
  ·rw [hsm (-2) (by omega)]
   constructor
   ·rintro ⟨k,hk,h⟩
    rcases (pEv_in _ _).1 hk with ⟨rfl,h2⟩ | ⟨rfl,h2⟩ <;> omega
   ·intro h
    exact ⟨1,(pEv_in _ _).2 (.inr ⟨rfl,by omega⟩),by omega⟩
  ·have hout:lOut (pX r w) s=if a1=true then [0] else []:=by
    unfold lOut
    rw [hB2]
    cases a1 <;> rfl
   rw [hout]
   cases ha:a1
   ·have hne:i≠e:=fun h=>by rw [ha1.2 h] at ha; cases ha
    simp only [Bool.false_eq_true,if_false]
    show _++[]=_
    rw [List.append_nil]
    by_cases h:i≤e
    ·rw [if_pos h,if_pos (by omega)]
    ·rw [if_neg h,if_neg (by omega)]
   ·have hie:=ha1.1 ha
    rw [if_pos (show i≤e by omega),if_pos rfl,if_neg (show ¬ i+1≤e by omega),hie]
    rfl
/-- What Train returns of the pair. -/
theorem pair_train {r:Rul} (hr:rchk r=0) (h1:r.kind=1) (hs:r.sum=false) {g:Int} (hg0 : -50≤g) (hg1:g≤50) {w:Int} (hw0:r.lo≤w) (hw1:w≤r.hi) :
  trO (pX r w) (pEv g) [] 150=[⟨61+g,0⟩]∧((nowL (pSyn w) (trS (pX r w) (pEv g) [] 150).m).getD 0 syn0).w=pWant r w g∧(nowL (pSyn w) (trS (pX r w) (pEv g) [] 150).m).length=2:=by
 obtain ⟨e,he⟩ : ∃ e:Nat,(e:Int)=61+g:=⟨(61+g).toNat,by omega⟩
 obtain ⟨hI,hO⟩:=pair_inv hr h1 hs hg0 hg1 he hw0 hw1 150 (Nat.le_refl _)
 refine ⟨?_,?_,?_⟩
 ·rw [hO,if_neg (by omega),he]
 ·rw [hI.m,if_neg (by omega)]; rfl
 ·rw [hI.m]; rfl
/-- The sign of what Window says. -/
theorem win_sign {r:Rul} (hr:rchk r=0) {g:Int} (hg0 : -50≤g) (hg1:g≤50):(0<g→0≤(winR r g).1)∧(g<0→(winR r g).1≤0)∧(g=0→(winR r g).1=0)∧(winR r g).2=0:=by
 have hg:=rchk_good.1 hr
 have hgn:=hg.gain
 have hW:winR r g=(chgM r ⟨0,trN r.keep (max g (-g)).toNat r.gain,trN r.keep (max g (-g)).toNat r.gain,0⟩ (decide (0<g)) (decide (g<0)),0):=by
  unfold winR
  rw [if_neg (by rw [hr]; simp),if_neg (by rw [wi_iff.2 ⟨by omega,by omega⟩]; simp),fadeN_eq]
 have hb:=trN_bound hg.keep (g:=r.gain) ⟨by omega,by omega⟩ (max g (-g)).toNat
 rw [hW]
 refine ⟨fun h => ?_,fun h => ?_,fun h => ?_,rfl⟩
 ·rw [decide_eq_true h,decide_eq_false (show ¬ g<0 by omega)]
  have hg2:GoodR { r with down:=0 }:=⟨hg.kind,hg.up,(show (0:Int)≤0∧(0:Int)≤255 by decide),hg.shift,hg.gain,hg.keep,hg.fade,hg.fade1,hg.bounds⟩
  obtain ⟨a,b,e,ha,_,_,_,_,hd⟩:=chg_parts hg2 (m:=⟨0,trN r.keep (max g (-g)).toNat r.gain,trN r.keep (max g (-g)).toNat r.gain,0⟩) hb hb true false
  have q : ∀ m,chgM r m true false=chgM { r with down:=0 } m true false:=fun m=>by unfold chgM; simp only [Bool.false_eq_true,if_false]
  rw [q,e,hd rfl]; omega
 ·rw [decide_eq_false (show ¬ 0<g by omega),decide_eq_true h]
  have hg2:GoodR { r with up:=0 }:=⟨hg.kind,(show (0:Int)≤0∧(0:Int)≤255 by decide),hg.down,hg.shift,hg.gain,hg.keep,hg.fade,hg.fade1,hg.bounds⟩
  obtain ⟨a,b,e,_,_,hb0,_,hd,_⟩:=chg_parts hg2 (m:=⟨0,trN r.keep (max g (-g)).toNat r.gain,trN r.keep (max g (-g)).toNat r.gain,0⟩) hb hb false true
  have q : ∀ m,chgM r m false true=chgM { r with up:=0 } m false true:=fun m=>by unfold chgM; simp only [Bool.false_eq_true,if_false]
  rw [q,e,hd rfl]; omega
 ·have c3 : ∀ m,chgM r m false false=0:=fun m=>by unfold chgM; simp
  have d1:decide (0<g)=false:=decide_eq_false (by omega)
  have d2:decide (g<0)=false:=decide_eq_false (by omega)
  simp only [d1,d2,c3]
end Go.Proofs.Ytnnlpdgnlccbjaa
namespace Go.Proofs.Ytnnlpdgnlccbjaa
open Go.Sx
set_option maxRecDepth 100000
set_option maxHeartbeats 8000000
def pairR (r:Rul):Rul:={ r with kind:=1,fade:=0,sum:=false }
theorem learnPairs_walk (w:World) (r:Rul) (wt:Int) (_ : -9223372036854775808≤wt∧wt≤9223372036854775807) (gp:Int) (hgp:0≤gp∧gp≤255):Calls Try.prog 7 #[r.sv.conc env0,.int .i64 wt,.int .u8 gp] w fun e w'=>e = .returned (.bool true)∧Ext w w':=by
 have hc : ∀ L' rd,(∀ p,rd=some p→p∈L')→Cx.ok ⟨Try.prog,tab,[],7,Try.f7,[],w,L',rd⟩:=fun L' rd h=>⟨tab_ok,trivial,Try.func7,mixed,h⟩
 obtain ⟨R,hR⟩ : ∃ R,pairR r=R:=⟨_,rfl⟩
 have hk:R.kind=1:=by rw [← hR]; rfl
 have hsum:R.sum=false:=by rw [← hR]; rfl
 obtain ⟨g,hg⟩ : ∃ g,IntKind.i64.wrap (IntKind.i64.wrap (gp.tmod 101)-50)=g:=⟨_,rfl⟩
 have hgb : -50≤g∧g≤50:=by
  have h1:gp.tmod 101=gp % 101:=Int.tmod_eq_emod_of_nonneg hgp.1
  have h2:IntKind.i64.wrap (gp.tmod 101)=gp.tmod 101:=W_id (by omega) (by omega)
  rw [← hg,h2,h1,show IntKind.i64.wrap (gp % 101-50)=gp % 101-50 from W_id (by omega) (by omega)]
  omega
 obtain ⟨hg0,hg1⟩:=hgb
 refine Run.start0 (tab:=tab) (pf:=[]) (cuts:=[]) mixed tab_ok trivial Try.func7 rfl [.agg (r.vals.map .v),ii wt,.v (.int .u8 gp)] 100 (by simp [SV.scs,SV.sc,scs_v]) rfl ?_
 conv=>whnf
 refine ⟨by decide,?_⟩
 conv=>whnf
 refine Run.trim (T':=[(1,ii wt),(3,.ptr 0 0),(6,.v (.bool false)),(7,ii (IntKind.i64.wrap (IntKind.i64.wrap (gp.tmod 101)-50))),(23,.agg ((pairR r).vals.map .v)),(24,ii (IntKind.i64.wrap (IntKind.i64.wrap (gp.tmod 101)-50)))]) (M':=[(0,.cells ((pairR r).vals.map .v) 36)]) 1 ⟨⟨rfl,trivial⟩,⟨rfl,(show 0<1 by decide)⟩,⟨rfl,trivial⟩,⟨rfl,trivial⟩,⟨rfl,scs_v _ _⟩,⟨rfl,trivial⟩,trivial⟩ ⟨⟨rfl,by omega,scs_v _ _⟩,trivial⟩ (fun p hp=>by cases hp) ?_
 rw [hR,hg]
 obtain ⟨x,hx⟩ : ∃ x,winR R g=x:=⟨_,rfl⟩
 refine Run.callE (g:=18) (vs:=[.agg (R.vals.map .v),ii g]) (caps:=[]) (.tup [ii x.1,ii x.2]) (fun ρ w1 hW=>by
  have:=Window_run R g w1
  rw [hx] at this
  exact this) (ent _ _ Try.func18 (by kernel_rfl) rfl) rfl rfl rfl rfl rfl rfl rfl ⟨trivial,trivial,trivial⟩ ?_
 refine Run.of_wpK (hc [] none (fun _ h=>by cases h)) 42 _ ?_
 conv=>whnf
 cases e1:(x.2 != 0)
 case true =>
  conv=>whnf
  refine Run.callE (g:=14) (vs:=[]) (caps:=[]) (.v (.bool true)) (fun ρ w1 hW=>works_run w1) (ent _ _ Try.func14 (by kernel_rfl) rfl) rfl rfl rfl rfl rfl rfl rfl trivial ?_
  refine Run.of_wpK (hc [] none (fun _ h=>by cases h)) 1000 _ ?_
  conv=>whnf
  exact ⟨fun ρ w' hW _=>⟨rfl,hW.toExt⟩⟩
 conv=>whnf
 cases e2:decide (wt<R.lo)
 case true =>
  conv=>whnf
  refine Run.callE (g:=14) (vs:=[]) (caps:=[]) (.v (.bool true)) (fun ρ w1 hW=>works_run w1) (ent _ _ Try.func14 (by kernel_rfl) rfl) rfl rfl rfl rfl rfl rfl rfl trivial ?_
  refine Run.of_wpK (hc [] none (fun _ h=>by cases h)) 1000 _ ?_
  conv=>whnf
  exact ⟨fun ρ w' hW _=>⟨rfl,hW.toExt⟩⟩
 conv=>whnf
 cases e3:decide (R.hi<wt)
 case true =>
  conv=>whnf
  refine Run.callE (g:=14) (vs:=[]) (caps:=[]) (.v (.bool true)) (fun ρ w1 hW=>works_run w1) (ent _ _ Try.func14 (by kernel_rfl) rfl) rfl rfl rfl rfl rfl rfl rfl trivial ?_
  refine Run.of_wpK (hc [] none (fun _ h=>by cases h)) 1000 _ ?_
  conv=>whnf
  exact ⟨fun ρ w' hW _=>⟨rfl,hW.toExt⟩⟩
 conv=>whnf
 cases e4:decide (255<wt)
 case true =>
  conv=>whnf
  refine Run.callE (g:=14) (vs:=[]) (caps:=[]) (.v (.bool true)) (fun ρ w1 hW=>works_run w1) (ent _ _ Try.func14 (by kernel_rfl) rfl) rfl rfl rfl rfl rfl rfl rfl trivial ?_
  refine Run.of_wpK (hc [] none (fun _ h=>by cases h)) 1000 _ ?_
  conv=>whnf
  exact ⟨fun ρ w' hW _=>⟨rfl,hW.toExt⟩⟩
 conv=>whnf
 cases e5:decide (wt < -255)
 case true =>
  conv=>whnf
  refine Run.callE (g:=14) (vs:=[]) (caps:=[]) (.v (.bool true)) (fun ρ w1 hW=>works_run w1) (ent _ _ Try.func14 (by kernel_rfl) rfl) rfl rfl rfl rfl rfl rfl rfl trivial ?_
  refine Run.of_wpK (hc [] none (fun _ h=>by cases h)) 1000 _ ?_
  conv=>whnf
  exact ⟨fun ρ w' hW _=>⟨rfl,hW.toExt⟩⟩
 conv=>whnf
 have hr:rchk R=0:=by
  refine Classical.byContradiction fun hn => ?_
  have:x.2=rchk R:=by rw [← hx]; unfold winR; rw [if_pos hn]
  rw [this] at e1
  simp at e1
  exact hn e1
 have hw0:R.lo≤wt:=by have:=of_decide_eq_false e2; omega
 have hw1:wt≤R.hi:=by have:=of_decide_eq_false e3; omega
 refine Run.slcRowE (T':=[(1,ii wt),(3,.ptr 0 0),(6,.v (.bool false)),(7,ii g),(8,ii x.1),(52,.opq 3),(56,.slc 2 0 2 2)]) (M':=[(2,.cells (((pSyn wt).flatMap Syn.vals).map .v) 55),(0,.cells (R.vals.map .v) 36)]) 1 8 1 (([pPrm].flatMap Prm.vals).map .v) 60 rfl rfl (by omega) (AllP.mem ⟨.inl rfl,.inl rfl,.inl rfl,.inl rfl,.inl rfl,.inr ⟨rfl,rfl⟩,.inl rfl,trivial⟩) (AllP.mem ⟨⟨rfl,(show 2≠1 by decide)⟩,⟨rfl,(show 0≠1 by decide)⟩,trivial⟩) ?_
 refine Run.slcRowE (T':=[(1,ii wt),(3,.ptr 0 0),(6,.v (.bool false)),(7,ii g),(8,ii x.1),(52,.opq 3),(56,.opq 4)]) (M':=[(3,.row 8 1 (([pPrm].flatMap Prm.vals).map .v) 60),(0,.cells (R.vals.map .v) 36)]) 2 4 2 (((pSyn wt).flatMap Syn.vals).map .v) 55 rfl rfl (by omega) (AllP.mem ⟨.inl rfl,.inl rfl,.inl rfl,.inl rfl,.inl rfl,.inl rfl,.inr ⟨rfl,rfl⟩,trivial⟩) (AllP.mem ⟨⟨rfl,(show 3≠2 by decide)⟩,⟨rfl,(show 0≠2 by decide)⟩,trivial⟩) ?_
 refine Run.of_wpK (hc [] none (fun _ h=>by cases h)) 1000 _ ?_
 conv=>whnf
 have hlen:(pEv g).length=2:=by unfold pEv; split <;> rfl
 have hw60:IntKind.i64.wrap (60+g)=60+g:=W_id (by omega) (by omega)
 have hw61:IntKind.i64.wrap (61+g)=61+g:=W_id (by omega) (by omega)
 apply joinL [(1,ii wt),(3,.ptr 0 0),(6,.v (.bool false)),(7,ii g),(8,ii x.1),(71,.agg [.opq 3,ii 2,.opq 4]),(73,.opq 10),(74,.opq 11),(75,.opq 9)] [(9,.row 2 (pEv g).length ((pEv g).flatMap Evt.cells) 62),(10,.row 10 1 (R.vals.map .v) 36),(11,.row 1 2 [ii 0,ii (-1)] 3),(4,.row 4 2 (((pSyn wt).flatMap Syn.vals).map .v) 55),(3,.row 8 1 (([pPrm].flatMap Prm.vals).map .v) 60),(0,.cells (R.vals.map .v) 36)] 13
 ·intro tail
  cases e6:decide (g<0)
  ·conv=>whnf
   refine Run.slcRowE (T':=[(1,ii wt),(3,.ptr 0 0),(6,.v (.bool false)),(7,ii g),(8,ii x.1),(71,.agg [.opq 3,ii 2,.opq 4]),(73,.slc 7 0 1 1),(74,.slc 8 0 2 2),(75,.opq 9)]) (M':=[(7,.cells (R.vals.map .v) 36),(8,.cells [ii 0,ii (-1)] 3),(4,.row 4 2 (((pSyn wt).flatMap Syn.vals).map .v) 55),(3,.row 8 1 (([pPrm].flatMap Prm.vals).map .v) 60),(0,.cells (R.vals.map .v) 36)]) 6 2 2 [ii 60,ii 0,ii (IntKind.i64.wrap (60+g)),ii 1] 62 rfl rfl (by omega) (AllP.mem ⟨.inl rfl,.inl rfl,.inl rfl,.inl rfl,.inl rfl,.inl rfl,.inl rfl,.inl rfl,.inr ⟨rfl,rfl⟩,trivial⟩) (AllP.mem ⟨⟨rfl,(show 7≠6 by decide)⟩,⟨rfl,(show 8≠6 by decide)⟩,⟨rfl,(show 4≠6 by decide)⟩,⟨rfl,(show 3≠6 by decide)⟩,⟨rfl,(show 0≠6 by decide)⟩,trivial⟩) ?_
   refine Run.slcRowE (T':=[(1,ii wt),(3,.ptr 0 0),(6,.v (.bool false)),(7,ii g),(8,ii x.1),(71,.agg [.opq 3,ii 2,.opq 4]),(73,.opq 10),(74,.slc 8 0 2 2),(75,.opq 9)]) (M':=[(9,.row 2 2 [ii 60,ii 0,ii (IntKind.i64.wrap (60+g)),ii 1] 62),(8,.cells [ii 0,ii (-1)] 3),(4,.row 4 2 (((pSyn wt).flatMap Syn.vals).map .v) 55),(3,.row 8 1 (([pPrm].flatMap Prm.vals).map .v) 60),(0,.cells (R.vals.map .v) 36)]) 7 10 1 (R.vals.map .v) 36 rfl rfl (by omega) (AllP.mem ⟨.inl rfl,.inl rfl,.inl rfl,.inl rfl,.inl rfl,.inl rfl,.inr ⟨rfl,rfl⟩,.inl rfl,.inl rfl,trivial⟩) (AllP.mem ⟨⟨rfl,(show 9≠7 by decide)⟩,⟨rfl,(show 8≠7 by decide)⟩,⟨rfl,(show 4≠7 by decide)⟩,⟨rfl,(show 3≠7 by decide)⟩,⟨rfl,(show 0≠7 by decide)⟩,trivial⟩) ?_
   refine Run.slcRowE (T':=[(1,ii wt),(3,.ptr 0 0),(6,.v (.bool false)),(7,ii g),(8,ii x.1),(71,.agg [.opq 3,ii 2,.opq 4]),(73,.opq 10),(74,.opq 11),(75,.opq 9)]) (M':=[(10,.row 10 1 (R.vals.map .v) 36),(9,.row 2 2 [ii 60,ii 0,ii (IntKind.i64.wrap (60+g)),ii 1] 62),(4,.row 4 2 (((pSyn wt).flatMap Syn.vals).map .v) 55),(3,.row 8 1 (([pPrm].flatMap Prm.vals).map .v) 60),(0,.cells (R.vals.map .v) 36)]) 8 1 2 [ii 0,ii (-1)] 3 rfl rfl (by omega) (AllP.mem ⟨.inl rfl,.inl rfl,.inl rfl,.inl rfl,.inl rfl,.inl rfl,.inl rfl,.inr ⟨rfl,rfl⟩,.inl rfl,trivial⟩) (AllP.mem ⟨⟨rfl,(show 10≠8 by decide)⟩,⟨rfl,(show 9≠8 by decide)⟩,⟨rfl,(show 4≠8 by decide)⟩,⟨rfl,(show 3≠8 by decide)⟩,⟨rfl,(show 0≠8 by decide)⟩,trivial⟩) ?_
   rw [show ([ii 60,ii 0,ii (IntKind.i64.wrap (60+g)),ii 1]:List SV)=(pEv g).flatMap Evt.cells by rw [hw60]; unfold pEv; rw [if_neg (of_decide_eq_false e6)]; rfl]
   exact Run.trim (T':=[(1,ii wt),(3,.ptr 0 0),(6,.v (.bool false)),(7,ii g),(8,ii x.1),(71,.agg [.opq 3,ii 2,.opq 4]),(73,.opq 10),(74,.opq 11),(75,.opq 9)]) (M':=[(9,.row 2 (pEv g).length ((pEv g).flatMap Evt.cells) 62),(10,.row 10 1 (R.vals.map .v) 36),(11,.row 1 2 [ii 0,ii (-1)] 3),(4,.row 4 2 (((pSyn wt).flatMap Syn.vals).map .v) 55),(3,.row 8 1 (([pPrm].flatMap Prm.vals).map .v) 60),(0,.cells (R.vals.map .v) 36)]) 13 ⟨⟨rfl,trivial⟩,⟨rfl,(show 0<13 by decide)⟩,⟨rfl,trivial⟩,⟨rfl,trivial⟩,⟨rfl,trivial⟩,⟨rfl,⟨(show 3<13 by decide),trivial,(show 4<13 by decide),trivial⟩⟩,⟨rfl,(show 10<13 by decide)⟩,⟨rfl,(show 11<13 by decide)⟩,⟨rfl,(show 9<13 by decide)⟩,trivial⟩ ⟨⟨by rw [hlen]; rfl,by omega,scs_evts _ _⟩,⟨rfl,by omega,scs_v _ _⟩,⟨rfl,by omega,by simp [SObj.sc,SV.scs,SV.sc]⟩,⟨rfl,by omega,scs_v _ _⟩,⟨rfl,by omega,scs_v _ _⟩,⟨rfl,by omega,scs_v _ _⟩,trivial⟩ (fun p hp=>by cases hp) tail
  ·conv=>whnf
   refine Run.slcRowE (T':=[(1,ii wt),(3,.ptr 0 0),(6,.v (.bool false)),(7,ii g),(8,ii x.1),(71,.agg [.opq 3,ii 2,.opq 4]),(73,.opq 10),(74,.slc 9 0 2 2),(75,.slc 7 0 2 2)]) (M':=[(7,.cells [ii (IntKind.i64.wrap (60+g)),ii 1,ii 60,ii 0] 62),(9,.cells [ii 0,ii (-1)] 3),(4,.row 4 2 (((pSyn wt).flatMap Syn.vals).map .v) 55),(3,.row 8 1 (([pPrm].flatMap Prm.vals).map .v) 60),(0,.cells (R.vals.map .v) 36)]) 8 10 1 (R.vals.map .v) 36 rfl rfl (by omega) (AllP.mem ⟨.inl rfl,.inl rfl,.inl rfl,.inl rfl,.inl rfl,.inl rfl,.inr ⟨rfl,rfl⟩,.inl rfl,.inl rfl,trivial⟩) (AllP.mem ⟨⟨rfl,(show 7≠8 by decide)⟩,⟨rfl,(show 9≠8 by decide)⟩,⟨rfl,(show 4≠8 by decide)⟩,⟨rfl,(show 3≠8 by decide)⟩,⟨rfl,(show 0≠8 by decide)⟩,trivial⟩) ?_
   refine Run.slcRowE (T':=[(1,ii wt),(3,.ptr 0 0),(6,.v (.bool false)),(7,ii g),(8,ii x.1),(71,.agg [.opq 3,ii 2,.opq 4]),(73,.opq 10),(74,.opq 11),(75,.slc 7 0 2 2)]) (M':=[(10,.row 10 1 (R.vals.map .v) 36),(7,.cells [ii (IntKind.i64.wrap (60+g)),ii 1,ii 60,ii 0] 62),(4,.row 4 2 (((pSyn wt).flatMap Syn.vals).map .v) 55),(3,.row 8 1 (([pPrm].flatMap Prm.vals).map .v) 60),(0,.cells (R.vals.map .v) 36)]) 9 1 2 [ii 0,ii (-1)] 3 rfl rfl (by omega) (AllP.mem ⟨.inl rfl,.inl rfl,.inl rfl,.inl rfl,.inl rfl,.inl rfl,.inl rfl,.inr ⟨rfl,rfl⟩,.inl rfl,trivial⟩) (AllP.mem ⟨⟨rfl,(show 10≠9 by decide)⟩,⟨rfl,(show 7≠9 by decide)⟩,⟨rfl,(show 4≠9 by decide)⟩,⟨rfl,(show 3≠9 by decide)⟩,⟨rfl,(show 0≠9 by decide)⟩,trivial⟩) ?_
   refine Run.slcRowE (T':=[(1,ii wt),(3,.ptr 0 0),(6,.v (.bool false)),(7,ii g),(8,ii x.1),(71,.agg [.opq 3,ii 2,.opq 4]),(73,.opq 10),(74,.opq 11),(75,.opq 12)]) (M':=[(11,.row 1 2 [ii 0,ii (-1)] 3),(10,.row 10 1 (R.vals.map .v) 36),(4,.row 4 2 (((pSyn wt).flatMap Syn.vals).map .v) 55),(3,.row 8 1 (([pPrm].flatMap Prm.vals).map .v) 60),(0,.cells (R.vals.map .v) 36)]) 7 2 2 [ii (IntKind.i64.wrap (60+g)),ii 1,ii 60,ii 0] 62 rfl rfl (by omega) (AllP.mem ⟨.inl rfl,.inl rfl,.inl rfl,.inl rfl,.inl rfl,.inl rfl,.inl rfl,.inl rfl,.inr ⟨rfl,rfl⟩,trivial⟩) (AllP.mem ⟨⟨rfl,(show 11≠7 by decide)⟩,⟨rfl,(show 10≠7 by decide)⟩,⟨rfl,(show 4≠7 by decide)⟩,⟨rfl,(show 3≠7 by decide)⟩,⟨rfl,(show 0≠7 by decide)⟩,trivial⟩) ?_
   rw [show ([ii (IntKind.i64.wrap (60+g)),ii 1,ii 60,ii 0]:List SV)=(pEv g).flatMap Evt.cells by rw [hw60]; unfold pEv; rw [if_pos (of_decide_eq_true e6)]; rfl]
   refine Run.trimQ (T':=[(1,ii wt),(3,.ptr 0 0),(6,.v (.bool false)),(7,ii g),(8,ii x.1),(71,.agg [.opq 3,ii 2,.opq 4]),(73,.opq 10),(74,.opq 11),(75,.opq 9)]) (M':=[(9,.row 2 (pEv g).length ((pEv g).flatMap Evt.cells) 62),(10,.row 10 1 (R.vals.map .v) 36),(11,.row 1 2 [ii 0,ii (-1)] 3),(4,.row 4 2 (((pSyn wt).flatMap Syn.vals).map .v) 55),(3,.row 8 1 (([pPrm].flatMap Prm.vals).map .v) 60),(0,.cells (R.vals.map .v) 36)]) (rq [(9,12),(12,9)]) 13 ?_ ?_ ?_ ?_ tail
   ·intro i hi j hj hne he
    have inv : ∀ i,i<13→rq [(9,12),(12,9)] (rq [(9,12),(12,9)] i)=i:=by decide
    exact hne (by rw [← inv i hi,he,inv j hj])
   ·exact ⟨⟨rfl,trivial⟩,⟨rfl,(show 0<13 by decide)⟩,⟨rfl,trivial⟩,⟨rfl,trivial⟩,⟨rfl,trivial⟩,⟨rfl,⟨(show 3<13 by decide),trivial,(show 4<13 by decide),trivial⟩⟩,⟨rfl,(show 10<13 by decide)⟩,⟨rfl,(show 11<13 by decide)⟩,⟨rfl,(show 9<13 by decide)⟩,trivial⟩
   ·exact ⟨⟨by rw [hlen]; exact congrArg some (oren_fix (S:=fun _=>False) (fun i hi=>hi.elim) (o := .row 2 2 ((pEv g).flatMap Evt.cells) 62) (scs_evts _ _)).symm,by omega,scs_evts _ _⟩,⟨congrArg some (oren_fix (S:=fun _=>False) (fun i hi=>hi.elim) (o := .row 10 1 (R.vals.map .v) 36) (scs_v _ _)).symm,by omega,scs_v _ _⟩,⟨rfl,by omega,by simp [SObj.sc,SV.scs,SV.sc]⟩,⟨congrArg some (oren_fix (S:=fun _=>False) (fun i hi=>hi.elim) (o := .row 4 2 (((pSyn wt).flatMap Syn.vals).map .v) 55) (scs_v _ _)).symm,by omega,scs_v _ _⟩,⟨congrArg some (oren_fix (S:=fun _=>False) (fun i hi=>hi.elim) (o := .row 8 1 (([pPrm].flatMap Prm.vals).map .v) 60) (scs_v _ _)).symm,by omega,scs_v _ _⟩,⟨congrArg some (oren_fix (S:=fun _=>False) (fun i hi=>hi.elim) (o := .cells (R.vals.map .v) 36) (scs_v _ _)).symm,by omega,scs_v _ _⟩,trivial⟩
   ·intro p hp; cases hp
 have htr:=train_nil (pX R wt) (pEv g) 150 (pair_chk hr hw0 hw1) (pair_prep hg0 hg1) (show 150*1≤65536 by decide)
 obtain ⟨hO,hY,hYl⟩:=pair_train hr hk hsum hg0 hg1 hw0 hw1
 rw [hO] at htr
 have hYd2:nowL (pX R wt).n.S (trS (pX R wt) (pEv g) [] 150).m=nowL (pSyn wt) (trS (pX R wt) (pEv g) [] 150).m:=rfl
 obtain ⟨Y,hYd⟩ : ∃ Y,nowL (pSyn wt) (trS (pX R wt) (pEv g) [] 150).m=Y:=⟨_,rfl⟩
 rw [hYd2,hYd] at htr
 rw [hYd] at hY hYl
 obtain ⟨y0,y1,rfl⟩ : ∃ y0 y1,Y=[y0,y1]:=by
  match Y,hYl with
  | [y0,y1],_=>exact ⟨y0,y1,rfl⟩
 have hy0:y0.w=pWant R wt g:=hY
 refine Run.callR (vs:=[.agg [.opq 0,ii 2,.opq 1],.opq 2,.opq 3,.opq 4,.v (.slice none 0 0),ii 150]) (caps:=[]) (caps2:=[]) htr (ent _ _ Try.func20 (by kernel_rfl) rfl) rfl rfl rfl rfl rfl rfl [.agg [.opq 3,ii 2,.opq 4],.opq 10,.opq 11,.opq 9,.v (.slice none 0 0),ii 150] rfl (fun q=>if q=0 then 3 else if q=1 then 4 else if q=2 then 10 else if q=3 then 11 else if q=4 then 9 else 0) rfl (fun i hi=>by have inv : ∀ i,i<6→(fun q=>if q=0 then 3 else if q=1 then 4 else if q=2 then 10 else if q=3 then 11 else if q=4 then 9 else 0) i<13:=(by decide); exact inv i hi) (fun i hi j hj hne=>by have inj : ∀ i,i<6 → ∀ j,j<6→i≠j→(fun q=>if q=0 then 3 else if q=1 then 4 else if q=2 then 10 else if q=3 then 11 else if q=4 then 9 else 0) i≠(fun q=>if q=0 then 3 else if q=1 then 4 else if q=2 then 10 else if q=3 then 11 else if q=4 then 9 else 0) j:=(by decide); exact inj i hi j hj hne) (by decide)
  ⟨⟨by omega,trivial,⟨_,rfl,Conv.row (by decide) rfl⟩,.inl rfl,fun _=>by simp⟩,⟨by omega,trivial,⟨_,rfl,Conv.row (by decide) rfl⟩,.inl rfl,fun _=>by simp⟩,⟨by omega,trivial,⟨_,rfl,Conv.row (by decide) rfl⟩,.inl rfl,fun _=>by simp⟩,⟨by omega,trivial,⟨_,rfl,Conv.row (by decide) rfl⟩,.inl rfl,fun _=>by simp⟩,⟨by omega,trivial,⟨_,rfl,Conv.row (by decide) (evts_v _)⟩,.inl rfl,fun _=>by simp⟩,trivial⟩ (fun i hi=>by cases hi) (.tup [.opq 13,.agg [.opq 14,ii 2,.opq 15],ii 0]) [(13,.row 2 1 (([⟨61+g,0⟩]:List Evt).flatMap Evt.cells) 62),(15,.row 4 2 (([y0,y1]:List Syn).flatMap Syn.cells) 55),(0,.cells (R.vals.map .v) 36)] 16 rfl rfl
  ⟨.inr ⟨6,_,rfl,rfl,(oren_fix (S:=fun _=>False) (fun i hi=>hi.elim) (o := .row 2 1 (([⟨61+g,0⟩]:List Evt).flatMap Evt.cells) 62) (scs_evts _ _)).symm,rfl⟩,.inr ⟨8,_,rfl,rfl,(oren_fix (S:=fun _=>False) (fun i hi=>hi.elim) (o := .row 4 2 (([y0,y1]:List Syn).flatMap Syn.cells) 55) (scs_syns _ _)).symm,rfl⟩,.inl ⟨rfl,fun i hi=>by cases hi⟩,trivial⟩ ?_
 refine Run.of_wpK (hc [] none (fun _ h=>by cases h)) 1000 _ ?_
 conv=>whnf
 refine Run.callE (g:=22) (vs:=[.opq 13,.slc 17 0 1 1]) (caps:=[]) (.v (.bool true)) (fun ρ w1 hW=>by
  have h1:=hW.rowsAtR (i:=13) rfl (by decide)
  rw [evts_v,concs_v] at h1
  have h2:=hW.rowsAtS (i:=17) (e:=2) (n:=1) (cap:=1) rfl rfl (by decide)
  have:=same_run _ _ [⟨61+g,0⟩] [⟨IntKind.i64.wrap (61+g),0⟩] w1 h1 h2 (show 1≤1000000 by decide)
  rw [hw61,decide_eq_true rfl] at this
  exact this) (ent _ _ Try.func22 (by kernel_rfl) rfl) rfl rfl rfl rfl rfl rfl rfl trivial ?_
 refine Run.of_wpK (hc [] none (fun _ h=>by cases h)) 1000 _ ?_
 conv=>whnf
 obtain ⟨hs1,hs2,hs3,_⟩:=win_sign hr hg0 hg1
 rw [hx] at hs1 hs2 hs3
 refine ⟨by decide,?_⟩
 conv=>whnf
 rw [show (y0.w==max R.lo (min R.hi (IntKind.i64.wrap (wt+x.1))))=true by rw [hy0]; unfold pWant; rw [hx]; exact beq_self_eq_true _]
 conv=>whnf
 cases s1:decide (0<g)
 case true =>
  conv=>whnf
  rw [decide_eq_true (hs1 (of_decide_eq_true s1))]
  conv=>whnf
  refine Run.callE (g:=14) (vs:=[]) (caps:=[]) (.v (.bool true)) (fun ρ w1 hW=>works_run w1) (ent _ _ Try.func14 (by kernel_rfl) rfl) rfl rfl rfl rfl rfl rfl rfl trivial ?_
  refine Run.of_wpK (hc [] none (fun _ h=>by cases h)) 1000 _ ?_
  conv=>whnf
  exact ⟨fun ρ w' hW _=>⟨rfl,hW.toExt⟩⟩
 conv=>whnf
 cases s2:decide (g<0)
 case true =>
  conv=>whnf
  rw [decide_eq_true (hs2 (of_decide_eq_true s2))]
  conv=>whnf
  refine Run.callE (g:=14) (vs:=[]) (caps:=[]) (.v (.bool true)) (fun ρ w1 hW=>works_run w1) (ent _ _ Try.func14 (by kernel_rfl) rfl) rfl rfl rfl rfl rfl rfl rfl trivial ?_
  refine Run.of_wpK (hc [] none (fun _ h=>by cases h)) 1000 _ ?_
  conv=>whnf
  exact ⟨fun ρ w' hW _=>⟨rfl,hW.toExt⟩⟩
 conv=>whnf
 have hgz:g=0:=by
  have:=of_decide_eq_false s1
  have:=of_decide_eq_false s2
  omega
 rw [show (g==0)=true by rw [hgz]; rfl]
 conv=>whnf
 rw [show (x.1==0)=true by rw [hs3 hgz]; rfl]
 conv=>whnf
 refine Run.callE (g:=14) (vs:=[]) (caps:=[]) (.v (.bool true)) (fun ρ w1 hW=>works_run w1) (ent _ _ Try.func14 (by kernel_rfl) rfl) rfl rfl rfl rfl rfl rfl rfl trivial ?_
 refine Run.of_wpK (hc [] none (fun _ h=>by cases h)) 1000 _ ?_
 conv=>whnf
 exact ⟨fun ρ w' hW _=>⟨rfl,hW.toExt⟩⟩
end Go.Proofs.Ytnnlpdgnlccbjaa
