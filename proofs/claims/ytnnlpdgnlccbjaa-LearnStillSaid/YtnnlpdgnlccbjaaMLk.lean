/-
  Laws of the executor, and walks of functions (part 11). The conditions stand with each law.
-/
import Derived.ProofKit
import Derived.OpenShut
import Derived.ChangeOld
import Derived.Below
import Derived.Lib.SmallJoins
import Derived.Test.YtnnlpdgnlccbjaaMLj
namespace Go.Proofs.Ytnnlpdgnlccbjaa
open Go.Sx
open Go.ChangeShapes Go.WideShapes Go.ChangeAt Go.RowKit Go.Deep Go.Joins
set_option maxRecDepth 100000
theorem Ext.below {w w':World}(h:Ext w w'):Below w.heap.size w w':=⟨h.os,h.tape,h.output,h.size,h.keep⟩
theorem laidOut:laidOutB Try.prog=true:=by kernel_rfl
section
variable {H:Type} {enc:TypeId×Value→H} {W:World} {base b0:Nat} {spare:Nat→Bool} {held:Bool} {r:Reach} {v:Value} {d:DataW H} {pl:List MemPlace}
theorem el_prm {n:Nat}{cs:List Value}{y:DataW H×List MemPlace}(h:DataW.trod enc Try.prog W base spare held n 60 cs=some y) :∃p:Prm,cs=p.vals:=by
 obtain⟨xs,m,_,hx,hlen,hxl,hg⟩:=DataW.trod_struct Try.underlying60 h
 have hC:Try.prog.cellsOf 60=8:=by kernel_rfl
 rw[hC]at hlen
 clear hx
 match cs,hlen with
 | [c0,c1,c2,c3,c4,c5,c6,c7],_=>
  match xs,hxl with
  | [y0,y1,y2,y3,y4,y5,y6,y7],_=>
   have h1:Try.prog.cellsOf 3=1:=by kernel_rfl
   have g0:DataW.trod enc Try.prog W base spare held m 3 [c0]=some y0:=by simpa[h1]using hg 0 _ rfl
   have g1:DataW.trod enc Try.prog W base spare held m 3 [c1]=some y1:=by simpa[h1]using hg 1 _ rfl
   have g2:DataW.trod enc Try.prog W base spare held m 3 [c2]=some y2:=by simpa[h1]using hg 2 _ rfl
   have g3:DataW.trod enc Try.prog W base spare held m 3 [c3]=some y3:=by simpa[h1]using hg 3 _ rfl
   have g4:DataW.trod enc Try.prog W base spare held m 3 [c4]=some y4:=by simpa[h1]using hg 4 _ rfl
   have g5:DataW.trod enc Try.prog W base spare held m 3 [c5]=some y5:=by simpa[h1]using hg 5 _ rfl
   have g6:DataW.trod enc Try.prog W base spare held m 3 [c6]=some y6:=by simpa[h1]using hg 6 _ rfl
   have g7:DataW.trod enc Try.prog W base spare held m 3 [c7]=some y7:=by simpa[h1]using hg 7 _ rfl
   obtain⟨n0,e0,_,w0⟩:=DataW.trod_int Try.underlying3 g0
   obtain⟨n1,e1,_,w1⟩:=DataW.trod_int Try.underlying3 g1
   obtain⟨n2,e2,_,w2⟩:=DataW.trod_int Try.underlying3 g2
   obtain⟨n3,e3,_,w3⟩:=DataW.trod_int Try.underlying3 g3
   obtain⟨n4,e4,_,w4⟩:=DataW.trod_int Try.underlying3 g4
   obtain⟨n5,e5,_,w5⟩:=DataW.trod_int Try.underlying3 g5
   obtain⟨n6,e6,_,w6⟩:=DataW.trod_int Try.underlying3 g6
   obtain⟨n7,e7,_,w7⟩:=DataW.trod_int Try.underlying3 g7
   simp only[List.cons.injEq,and_true]at e0 e1 e2 e3 e4 e5 e6 e7
   subst e0 e1 e2 e3 e4 e5 e6 e7
   exact⟨⟨n0,n1,n2,n3,n4,n5,n6,n7⟩,rfl⟩
theorem el_syn {n:Nat}{cs:List Value}{y:DataW H×List MemPlace}(h:DataW.trod enc Try.prog W base spare held n 55 cs=some y) :∃p:Syn,cs=p.vals:=by
 obtain⟨xs,m,_,hx,hlen,hxl,hg⟩:=DataW.trod_struct Try.underlying55 h
 have hC:Try.prog.cellsOf 55=4:=by kernel_rfl
 rw[hC]at hlen
 clear hx
 match cs,hlen with
 | [c0,c1,c2,c3],_=>
  match xs,hxl with
  | [y0,y1,y2,y3],_=>
   have h1:Try.prog.cellsOf 3=1:=by kernel_rfl
   have g0:DataW.trod enc Try.prog W base spare held m 3 [c0]=some y0:=by simpa[h1]using hg 0 _ rfl
   have g1:DataW.trod enc Try.prog W base spare held m 3 [c1]=some y1:=by simpa[h1]using hg 1 _ rfl
   have g2:DataW.trod enc Try.prog W base spare held m 3 [c2]=some y2:=by simpa[h1]using hg 2 _ rfl
   have g3:DataW.trod enc Try.prog W base spare held m 3 [c3]=some y3:=by simpa[h1]using hg 3 _ rfl
   obtain⟨n0,e0,_,w0⟩:=DataW.trod_int Try.underlying3 g0
   obtain⟨n1,e1,_,w1⟩:=DataW.trod_int Try.underlying3 g1
   obtain⟨n2,e2,_,w2⟩:=DataW.trod_int Try.underlying3 g2
   obtain⟨n3,e3,_,w3⟩:=DataW.trod_int Try.underlying3 g3
   simp only[List.cons.injEq,and_true]at e0 e1 e2 e3
   subst e0 e1 e2 e3
   exact⟨⟨n0,n1,n2,n3⟩,rfl⟩
theorem el_rul {n:Nat}{cs:List Value}{y:DataW H×List MemPlace}(h:DataW.trod enc Try.prog W base spare held n 36 cs=some y) :∃p:Rul,cs=p.vals:=by
 obtain⟨xs,m,_,hx,hlen,hxl,hg⟩:=DataW.trod_struct Try.underlying36 h
 have hC:Try.prog.cellsOf 36=10:=by kernel_rfl
 rw[hC]at hlen
 clear hx
 match cs,hlen with
 | [c0,c1,c2,c3,c4,c5,c6,c7,c8,c9],_=>
  match xs,hxl with
  | [y0,y1,y2,y3,y4,y5,y6,y7,y8,y9],_=>
   have h1:Try.prog.cellsOf 3=1:=by kernel_rfl
   have h2:Try.prog.cellsOf 4=1:=by kernel_rfl
   have g0:DataW.trod enc Try.prog W base spare held m 3 [c0]=some y0:=by simpa[h1]using hg 0 _ rfl
   have g1:DataW.trod enc Try.prog W base spare held m 3 [c1]=some y1:=by simpa[h1]using hg 1 _ rfl
   have g2:DataW.trod enc Try.prog W base spare held m 3 [c2]=some y2:=by simpa[h1]using hg 2 _ rfl
   have g3:DataW.trod enc Try.prog W base spare held m 3 [c3]=some y3:=by simpa[h1]using hg 3 _ rfl
   have g4:DataW.trod enc Try.prog W base spare held m 3 [c4]=some y4:=by simpa[h1]using hg 4 _ rfl
   have g5:DataW.trod enc Try.prog W base spare held m 3 [c5]=some y5:=by simpa[h1]using hg 5 _ rfl
   have g6:DataW.trod enc Try.prog W base spare held m 3 [c6]=some y6:=by simpa[h1]using hg 6 _ rfl
   have g7:DataW.trod enc Try.prog W base spare held m 3 [c7]=some y7:=by simpa[h1]using hg 7 _ rfl
   have g8:DataW.trod enc Try.prog W base spare held m 3 [c8]=some y8:=by simpa[h1]using hg 8 _ rfl
   have g9:DataW.trod enc Try.prog W base spare held m 4 [c9]=some y9:=by simpa[h2]using hg 9 _ rfl
   obtain⟨n0,e0,_,w0⟩:=DataW.trod_int Try.underlying3 g0
   obtain⟨n1,e1,_,w1⟩:=DataW.trod_int Try.underlying3 g1
   obtain⟨n2,e2,_,w2⟩:=DataW.trod_int Try.underlying3 g2
   obtain⟨n3,e3,_,w3⟩:=DataW.trod_int Try.underlying3 g3
   obtain⟨n4,e4,_,w4⟩:=DataW.trod_int Try.underlying3 g4
   obtain⟨n5,e5,_,w5⟩:=DataW.trod_int Try.underlying3 g5
   obtain⟨n6,e6,_,w6⟩:=DataW.trod_int Try.underlying3 g6
   obtain⟨n7,e7,_,w7⟩:=DataW.trod_int Try.underlying3 g7
   obtain⟨n8,e8,_,w8⟩:=DataW.trod_int Try.underlying3 g8
   obtain⟨n9,e9,_⟩:=DataW.trod_bool Try.underlying4 g9
   simp only[List.cons.injEq,and_true]at e0 e1 e2 e3 e4 e5 e6 e7 e8 e9
   subst e0 e1 e2 e3 e4 e5 e6 e7 e8 e9
   exact⟨⟨n0,n1,n2,n3,n4,n5,n6,n7,n8,n9⟩,rfl⟩
theorem el_evt {n:Nat}{cs:List Value}{y:DataW H×List MemPlace}(h:DataW.trod enc Try.prog W base spare held n 62 cs=some y) :∃p:Evt,cs=p.vals:=by
 obtain⟨xs,m,_,hx,hlen,hxl,hg⟩:=DataW.trod_struct Try.underlying62 h
 have hC:Try.prog.cellsOf 62=2:=by kernel_rfl
 rw[hC]at hlen
 clear hx
 match cs,hlen with
 | [c0,c1],_=>
  match xs,hxl with
  | [y0,y1],_=>
   have h1:Try.prog.cellsOf 3=1:=by kernel_rfl
   have g0:DataW.trod enc Try.prog W base spare held m 3 [c0]=some y0:=by simpa[h1]using hg 0 _ rfl
   have g1:DataW.trod enc Try.prog W base spare held m 3 [c1]=some y1:=by simpa[h1]using hg 1 _ rfl
   obtain⟨n0,e0,_,w0⟩:=DataW.trod_int Try.underlying3 g0
   obtain⟨n1,e1,_,w1⟩:=DataW.trod_int Try.underlying3 g1
   simp only[List.cons.injEq,and_true]at e0 e1
   subst e0 e1
   exact⟨⟨n0,n1⟩,rfl⟩
theorem el_prz {n:Nat}{cs:List Value}{y:DataW H×List MemPlace}(h:DataW.trod enc Try.prog W base spare held n 49 cs=some y) :∃p:Prz,cs=p.vals:=by
 obtain⟨xs,m,_,hx,hlen,hxl,hg⟩:=DataW.trod_struct Try.underlying49 h
 have hC:Try.prog.cellsOf 49=3:=by kernel_rfl
 rw[hC]at hlen
 clear hx
 match cs,hlen with
 | [c0,c1,c2],_=>
  match xs,hxl with
  | [y0,y1,y2],_=>
   have h1:Try.prog.cellsOf 3=1:=by kernel_rfl
   have g0:DataW.trod enc Try.prog W base spare held m 3 [c0]=some y0:=by simpa[h1]using hg 0 _ rfl
   have g1:DataW.trod enc Try.prog W base spare held m 3 [c1]=some y1:=by simpa[h1]using hg 1 _ rfl
   have g2:DataW.trod enc Try.prog W base spare held m 3 [c2]=some y2:=by simpa[h1]using hg 2 _ rfl
   obtain⟨n0,e0,_,w0⟩:=DataW.trod_int Try.underlying3 g0
   obtain⟨n1,e1,_,w1⟩:=DataW.trod_int Try.underlying3 g1
   obtain⟨n2,e2,_,w2⟩:=DataW.trod_int Try.underlying3 g2
   simp only[List.cons.injEq,and_true]at e0 e1 e2
   subst e0 e1 e2
   exact⟨⟨n0,n1,n2⟩,rfl⟩
theorem u3 {α : Type}{t e:TypeId}{k:Nat}(vals : α → List Value)(hvl :∀a,(vals a).length=k)(hk:0<k)(ht:Try.prog.underlying t=some (.slice e))(hc:Try.prog.cellsOf e=k)
  (hel :∀{n:Nat} {cs:List Value} {y:DataW H×List MemPlace},DataW.trod enc Try.prog W base spare held n e cs=some y → ∃p : α,cs=vals p) {n:Nat} {cs:List Value} {y:DataW H×List MemPlace} (h:DataW.trod enc Try.prog W base spare held n t cs=some y) :
  ∃(v:Value) (l:List α),cs=[v]∧RowsAt W v k l.length (l.flatMap vals)∧l.length≤maxLen:=by
 rcases DataW.trod_slice ht h with⟨h0,_⟩|⟨a,len,cap,elems,rest,m,_,rfl,_,hb,hl,hm,hlen,hel2,hsp,hns⟩
 ·exact⟨_,[],h0,⟨by simp,none,0,rfl,Nat.le_refl _,.inl rfl⟩,Nat.zero_le _⟩
 have each :∀i:Fin len,∃p : α,W.cells? base (a.add (i.1*k)) k=some (vals p):=by
  intro i
  have h1:=hel2 i.1 i.2
  have h2:elems[i.1]? = some (elems[i.1]'(by omega)):=List.getElem?_eq_getElem _
  rw[h2,hc,Option.bind_eq_some_iff]at h1
  obtain⟨cs',h3,h4⟩:=h1
  obtain⟨p,hp⟩:=hel h4
  exact⟨p,by rw[h3,hp]⟩
 let l:List α :=List.ofFn fun i:Fin len=>Classical.choose (each i)
 have hll:l.length=len:=List.length_ofFn
 have hlg :∀i (hi:i<len),W.cells? base (a.add (i*k)) k=some (vals (l[i]'(by rw[hll];exact hi))):=fun i hi=>by
  have:=Classical.choose_spec (each ⟨i,hi⟩)
  simp only[l,List.getElem_ofFn]
  exact this
 refine⟨_,l,rfl,⟨j7 hvl l,some a,cap,by rw[hll],by omega,?_⟩,by omega⟩
 by_cases h0:len=0
 ·exact .inl (by omega)
 obtain⟨blk,off,spot⟩:=a
 have hc0:W.cell? ⟨blk,off,spot⟩≠none:=by
  have h1:=(World.cells?_some (hlg 0 (by omega))).2.2 0 hk
  have h2:(vals (l[0]'(by omega)))[0]? = some ((vals (l[0]'(by omega)))[0]'(by rw[hvl];exact hk)):=List.getElem?_eq_getElem _
  rw[h2]at h1
  simp[Addr.add]at h1
  rw[h1];simp
 have hspot:spot=none:=by
  cases hcc:W.cell? ⟨blk,off,spot⟩with
  |none=>exact absurd hcc hc0
  |some x=>exact World.cell?_spot hcc
 subst hspot
 have hcell :∀j x,(l.flatMap vals)[j]? = some x→W.cell? ⟨blk,off+j,none⟩=some x:=by
  intro j x hj
  have hjl:j<len*k:=by
   have:=(List.getElem?_eq_some_iff.1 hj).1
   rw[j7 hvl,hll]at this
   exact this
  have hq:j / k<len:=Nat.div_lt_of_lt_mul (by rw[Nat.mul_comm];exact hjl)
  have hr:=Nat.mod_lt j hk
  have hdm:j / k*k+j % k=j:=by rw[Nat.mul_comm];exact Nat.div_add_mod j k
  have h1:=(World.cells?_some (hlg (j / k) hq)).2.2 (j % k) hr
  have h2:=gK (f:=vals) hvl (l:=l) (i:=j / k) (k:=j % k) (by omega) hr
  rw[q8,q8,hdm,hj]at h2
  rw[←h2]at h1
  rw[zV,zV]at h1
  rw[show off+j=off+j / k*k+j % k by omega]
  exact h1
 refine .inr ⟨blk,off,rfl,?_,hcell⟩
 have h2:(l.flatMap vals)[0]? = some ((l.flatMap vals)[0]'(by rw[j7 hvl,hll];exact Nat.mul_pos (by omega) hk)):=List.getElem?_eq_getElem _
 have h3:=hcell 0 _ h2
 unfold World.cell? at h3
 rcases Nat.lt_or_ge blk W.heap.size with hlt|hge
 ·exact hlt
 ·simp[Array.getElem?_eq_none hge]at h3
theorem el_int {n:Nat}{cs:List Value}{y:DataW H×List MemPlace}(h:DataW.trod enc Try.prog W base spare held n 3 cs=some y) :∃p:Int,cs=[.int .i64 p]:=by
 obtain⟨n0,e0,_,w0⟩:=DataW.trod_int Try.underlying3 h
 exact⟨n0,e0⟩
theorem ints_flat (l:List Int):l.flatMap (fun x=>[Value.int .i64 x])=qD l:=by
 induction l with
 |nil=>rfl
 |cons a l ih=>rw[List.flatMap_cons,ih];rfl
theorem el_introw {n:Nat}{cs:List Value}{y:DataW H×List MemPlace}(h:DataW.trod enc Try.prog W base spare held n 27 cs=some y) :∃(v:Value) (l:List Int),cs=[v]∧RowsAt W v 1 l.length (qD l)∧l.length≤maxLen:=by
 obtain⟨v,l,h1,h2,h3⟩:=u3 (fun x:Int=>[Value.int .i64 x]) (fun _=>rfl) (by decide) Try.underlying27 (by kernel_rfl) el_int h
 rw[ints_flat]at h2
 exact⟨v,l,h1,h2,h3⟩
theorem el_net {n:Nat}{cs:List Value}{y:DataW H×List MemPlace}(h:DataW.trod enc Try.prog W base spare held n 25 cs=some y) :∃(vN vS:Value) (x:Net),cs=[vN,.int .i64 x.inp,vS]∧xU W vN vS x:=by
 obtain⟨xs,m,_,hx,hlen,hxl,hg⟩:=DataW.trod_struct Try.underlying25 h
 have hC:Try.prog.cellsOf 25=3:=by kernel_rfl
 rw[hC]at hlen
 clear hx
 match cs,hlen with
 | [c0,c1,c2],_=>
  match xs,hxl with
  | [y0,y1,y2],_=>
   have h1:Try.prog.cellsOf 3=1:=by kernel_rfl
   have h2:Try.prog.cellsOf 22=1:=by kernel_rfl
   have h3:Try.prog.cellsOf 23=1:=by kernel_rfl
   have g0:DataW.trod enc Try.prog W base spare held m 22 [c0]=some y0:=by simpa[h2]using hg 0 _ rfl
   have g1:DataW.trod enc Try.prog W base spare held m 3 [c1]=some y1:=by simpa[h1]using hg 1 _ rfl
   have g2:DataW.trod enc Try.prog W base spare held m 23 [c2]=some y2:=by simpa[h3]using hg 2 _ rfl
   obtain⟨v0,l0,e0,r0,_⟩:=u3 Prm.vals Prm.vlen (by decide) Try.underlying22 (by kernel_rfl) el_prm g0
   obtain⟨n1,e1⟩:=el_int g1
   obtain⟨v2,l2,e2,r2,_⟩:=u3 Syn.vals Syn.vlen (by decide) Try.underlying23 (by kernel_rfl) el_syn g2
   simp only[List.cons.injEq,and_true]at e0 e1 e2
   subst e0 e1 e2
   exact⟨c0,c2,⟨l0,n1,l2⟩,rfl,r0,r2⟩
end
end Go.Proofs.Ytnnlpdgnlccbjaa
namespace Go.Proofs.Ytnnlpdgnlccbjaa
open Go.Sx
set_option maxRecDepth 100000
set_option maxHeartbeats 4000000
set_option maxHeartbeats 8000000
def atStep (t:Int)(a:List Int)(e:Evt):List Int:=if (e.tick==t)=true then a++[e.id]else a
def atIn (l:List Evt)(t:Int):List Int:=l.foldl (atStep t) []
theorem atIn_eq (l:List Evt)(t:Int):atIn l t=(l.filter fun e=>e.tick==t).map (·.id):=by
 have :∀(l:List Evt) (a:List Int),l.foldl (atStep t) a=a++(l.filter fun e=>e.tick==t).map (·.id):=by
  intro l
  induction l with
  |nil=>intro a;simp
  |cons e l ih=>
   intro a
   rw[List.foldl_cons,ih]
   unfold atStep
   cases h:e.tick==t
   ·simp[h]
   ·simp[h]
 unfold atIn
 simpa using this l []
theorem tU {t:Int} :∀{m:List Evt},m.Pairwise (fun a b=>a.tick≤b.tick)→(∀e∈m,t≤e.tick)→m.take (nAt t m)=m.filter (fun e=>e.tick==t)∧m.drop (nAt t m)=m.filter (fun e=>decide (t+1≤e.tick))
 | [],_,_=>⟨rfl,rfl⟩
 |e::m,hp,ht=>by
  obtain⟨h1,h2⟩:=List.pairwise_cons.1 hp
  obtain⟨i1,i2⟩:=tU h2 (fun a ha=>ht a (List.mem_cons_of_mem _ ha))
  unfold nAt
  by_cases h:e.tick=t
  ·rw[if_pos h,List.take_succ_cons,List.drop_succ_cons,i1,i2]
   constructor
   ·simp[h]
   ·rw[List.filter_cons,if_neg (by simp;omega)]
  ·rw[if_neg h]
   have h3:t<e.tick:=by have:=ht e (List.mem_cons_self ..);omega
   have h4 :∀a∈m,t<a.tick:=fun a ha=>by have:=h1 a ha;omega
   refine⟨?_,?_⟩
   ·rw[List.take_zero]
    symm
    rw[List.filter_eq_nil_iff]
    intro a ha
    rcases List.mem_cons.1 ha with rfl|ha
    ·simp;omega
    ·have:=h4 a ha;simp;omega
   ·rw[List.drop_zero]
    symm
    rw[List.filter_eq_self]
    intro a ha
    rcases List.mem_cons.1 ha with rfl|ha
    ·simp;omega
    ·have:=h4 a ha;simp;omega
theorem evR_filter {l:List Evt}(hp:l.Pairwise (fun a b=>a.tick≤b.tick))(h0 :∀e∈l,0≤e.tick) :∀i:Nat,evR l i=l.filter (fun e=>decide ((i:Int)≤e.tick))
 | 0=>by
  symm
  show l.filter _=l
  rw[List.filter_eq_self]
  intro a ha
  have:=h0 a ha
  simpa using this
 |i+1=>by
  have ih:=evR_filter hp h0 i
  have h1:(evR l i).Pairwise (fun a b=>a.tick≤b.tick):=by rw[ih];exact hp.filter _
  have h2 :∀e∈evR l i,(i:Int)≤e.tick:=fun e he=>by rw[ih]at he;simpa using (List.mem_filter.1 he).2
  unfold evR
  rw[(tU h1 h2).2,ih,List.filter_filter]
  apply List.filter_congr
  intro a _
  have:(((i+1:Nat)):Int)=(i:Int)+1:=rfl
  rw[this]
  by_cases h:(i:Int)+1≤a.tick
  ·simp[h];omega
  ·simp[h]
theorem trIn_eq {l:List Evt}(hp:l.Pairwise (fun a b=>a.tick≤b.tick))(h0 :∀e∈l,0≤e.tick)(i:Nat):trIn l i=atIn l i:=by
 have ih:=evR_filter hp h0 i
 have h1:(evR l i).Pairwise (fun a b=>a.tick≤b.tick):=by rw[ih];exact hp.filter _
 have h2 :∀e∈evR l i,(i:Int)≤e.tick:=fun e he=>by rw[ih]at he;simpa using (List.mem_filter.1 he).2
 unfold trIn zF
 rw[(tU h1 h2).1,ih,List.filter_filter,atIn_eq]
 congr 1
 apply List.filter_congr
 intro a _
 cases h:a.tick==(i:Int)
 ·simp
 ·have:a.tick=(i:Int):=by simpa using h
  simp[this]
set_option maxHeartbeats 4000000
def fewB (n:Net)(rs:List Rul)(pl:List Int):Bool:=decide ((n.N.length:Int)≤24)&&(decide ((n.S.length:Int)≤100)&&(decide ((rs.length:Int)≤17)&&decide ((pl.length:Int)≤110)))
theorem few_run (vN vS:Value)(n:Net)(vR:Value)(rs:List Rul)(vP:Value)(pl:List Int)(w:World)(hn:xU w vN vS n)(hr:RowsAt w vR 10 rs.length (rs.flatMap Rul.vals))(hpl:RowsAt w vP 1 pl.length (qD pl)) :
  Calls Try.prog 13 #[netV vN vS n,vR,vP] w fun e w'=>e = .returned (.bool (fewB n rs pl))∧Ext w w':=by
 have hc :∀L,Cx.ok ⟨Try.prog,tab,[],13,Try.f13,[],w,L,none⟩:=fun L=>⟨qI,trivial,Try.func13,mixed,fun _ h=>by cases h⟩
 obtain⟨h1,h2⟩:=hn
 obtain⟨N,inp,S⟩:=n
 simp only at h1 h2
 have hrows:AllP (fun x:Value×Nat×Nat×List Value=>RowsAt w x.1 x.2.1 x.2.2.1 x.2.2.2) [(vN,8,N.length,N.flatMap Prm.vals),(vS,4,S.length,S.flatMap Syn.vals),(vR,10,rs.length,rs.flatMap Rul.vals),(vP,1,pl.length,qD pl)]:=⟨h1,h2,hr,hpl,trivial⟩
 refine Run.rH Try.func13 rfl _ hrows [.agg [.opq 0,ii inp,.opq 1],.opq 2,.opq 3] [netV vN vS ⟨N,inp,S⟩,vR,vP] [(0,.rwin 8 N.length (N.flatMap Prm.vals)),(1,.rwin 4 S.length (S.flatMap Syn.vals)),(2,.rwin 10 rs.length (rs.flatMap Rul.vals)),(3,.rwin 1 pl.length (qD pl))] 4 rfl rfl
  (by show [Value.agg [(SV.opq 0).conc _,.int .i64 inp,(SV.opq 1).conc _].toArray,(SV.opq 2).conc _,(SV.opq 3).conc _]=_;rw[qM hrows (k:=0) rfl,qM hrows (k:=1) rfl,qM hrows (k:=2) rfl,qM hrows (k:=3) rfl];rfl) (by simp[SV.scs,SV.sc]) rfl (Run.s0 (hc _) 1000 _ ?_)
 conv=>whnf
 have fin :∀b:Bool,fewB ⟨N,inp,S⟩ rs pl=b → ∀{M:List (Nat×SObj)} {n:Nat} {c:Cx},c.w0=w→c.L=[]→RetOk c M n (.v (.bool b)) (fun e w'=>e = .returned (.bool (fewB ⟨N,inp,S⟩ rs pl))∧Ext w w'):=
  fun b hb M n c hw hL=>⟨fun ρ w' hW _=>⟨by rw[hb];rfl,by rw[hw,hL]at hW;exact hW.toExt⟩⟩
 cases b1:decide ((N.length:Int)≤24)
 ·conv=>whnf
  exact fin false (by unfold fewB;simp only[b1];rfl) rfl rfl
 conv=>whnf
 cases b2:decide ((S.length:Int)≤100)
 ·conv=>whnf
  exact fin false (by unfold fewB;simp only[b1,b2];rfl) rfl rfl
 conv=>whnf
 cases b3:decide ((rs.length:Int)≤17)
 ·conv=>whnf
  exact fin false (by unfold fewB;simp only[b1,b2,b3];rfl) rfl rfl
 conv=>whnf
 cases b4:decide ((pl.length:Int)≤110)
 ·conv=>whnf
  exact fin false (by unfold fewB;simp only[b1,b2,b3,b4];rfl) rfl rfl
 conv=>whnf
 exact fin true (by unfold fewB;simp only[b1,b2,b3,b4];rfl) rfl rfl
set_option maxHeartbeats 8000000
def xN (n:Net)(rs:List Rul)(pl:List Int)(l:List Evt)(p:List Prz)(K:Int):Int:=
 if qZ n rs pl≠0 then qZ n rs pl else if zO ⟨[zB],n.inp,[]⟩ l K 10000≠0 then zO ⟨[zB],n.inp,[]⟩ l K 10000 else jX (rs.length:Int) p
def net0:Value:=.agg #[.slice none 0 0,.int .i64 0,.slice none 0 0]
theorem train_bad (vN vS:Value)(n:Net)(vR:Value)(rs:List Rul)(vP:Value)(pl:List Int)(vE:Value)(l:List Evt)(vZ:Value)(p:List Prz)(K:Int)(w:World)(he:xN n rs pl l p K≠0)(hn:xU w vN vS n)(hr:RowsAt w vR 10 rs.length (rs.flatMap Rul.vals))(hpl:RowsAt w vP 1 pl.length (qD pl))(hE:RowsAt w vE 2 l.length (l.flatMap Evt.vals))(hZ:RowsAt w vZ 3 p.length (p.flatMap Prz.vals)) :
  Calls Try.prog 20 #[netV vN vS n,vR,vP,vE,vZ,.int .i64 K] w fun e w'=>e = .returned (.tuple #[.slice none 0 0,net0,.int .i64 (xN n rs pl l p K)])∧Ext w w':=by
 have hc :∀w L' rd,(∀p,rd=some p→p∈L')→Cx.ok ⟨Try.prog,tab,[],20,Try.f20,[],w,L',rd⟩:=fun w L' rd h=>⟨qI,trivial,Try.func20,mixed,h⟩
 obtain⟨hn1,hn2⟩:=hn
 have hrows:AllP (fun x:Value×Nat×Nat×List Value=>RowsAt w x.1 x.2.1 x.2.2.1 x.2.2.2) [(vN,8,n.N.length,n.N.flatMap Prm.vals),(vS,4,n.S.length,n.S.flatMap Syn.vals),(vR,10,rs.length,rs.flatMap Rul.vals),(vP,1,pl.length,qD pl),(vE,2,l.length,l.flatMap Evt.vals),(vZ,3,p.length,p.flatMap Prz.vals)]:=⟨hn1,hn2,hr,hpl,hE,hZ,trivial⟩
 refine Run.rH (tab:=tab) (pf:=[]) (cuts:=[]) Try.func20 rfl _ hrows [.agg [.opq 0,ii n.inp,.opq 1],.opq 2,.opq 3,.opq 4,.opq 5,ii K] [netV vN vS n,vR,vP,vE,vZ,.int .i64 K] [(0,.rwin 8 n.N.length (n.N.flatMap Prm.vals)),(1,.rwin 4 n.S.length (n.S.flatMap Syn.vals)),(2,.rwin 10 rs.length (rs.flatMap Rul.vals)),(3,.rwin 1 pl.length (qD pl)),(4,.rwin 2 l.length (l.flatMap Evt.vals)),(5,.rwin 3 p.length (p.flatMap Prz.vals))] 6 rfl rfl (by show [Value.agg [(SV.opq 0).conc _,.int .i64 n.inp,(SV.opq 1).conc _].toArray,(SV.opq 2).conc _,(SV.opq 3).conc _,(SV.opq 4).conc _,(SV.opq 5).conc _,.int .i64 K]=_;rw[qM hrows (k:=0) rfl,qM hrows (k:=1) rfl,qM hrows (k:=2) rfl,qM hrows (k:=3) rfl,qM hrows (k:=4) rfl,qM hrows (k:=5) rfl];rfl) (by simp[SV.scs,SV.sc]) rfl (Run.s0 (hc w [] none nofun) 100 _ ?_)
 conv=>whnf
 by_cases h1:qZ n rs pl=0
 case neg=>
  have ht:xN n rs pl l p K=qZ n rs pl:=by unfold xN;rw[if_pos h1]
  rw[ht]
  refine Run.rB (g:=25) (vs:=[.agg [.opq 0,ii n.inp,.opq 1],.opq 2,.opq 3]) (caps:=[]) (.tup [.v (.pointer none),ii (qZ n rs pl)]) (fun ρ w1 hW=>new_bad _ _ n _ rs _ pl w1 h1 ⟨hW.rowsAt rfl,hW.rowsAt rfl⟩ (hW.rowsAt rfl) (hW.rowsAt rfl)) (ent _ _ Try.func25 (by kernel_rfl) rfl) rfl rfl rfl rfl rfl rfl rfl ⟨trivial,trivial,trivial⟩ ?_
  refine Run.W1 (hc w [] none nofun) ?_
  conv=>whnf
  rw[show(qZ n rs pl != 0)=true by simpa using h1]
  conv=>whnf
  exact⟨fun ρ w' hW _=>⟨rfl,hW.toExt⟩⟩
 refine Run.rF (vs:=[.agg [.opq 0,ii n.inp,.opq 1],.opq 2,.opq 3]) (caps:=[]) (new_ok ⟨n,rs,pl⟩ h1) (ent _ _ Try.func25 (by kernel_rfl) rfl) rfl rfl rfl rfl rfl rfl rfl (by decide) (by decide) (by repeat first|exact trivial|refine⟨⟨by omega,trivial,⟨_,rfl,Conv.refl _⟩,.inl rfl,fun _=>by simp⟩,?_⟩) (fun i hi=>by cases hi) (.tup [.ptr 8 0,ii 0]) ((8,.cells [ii 0,.opq 9,ii n.inp,.opq 10,.opq 11,.mp 16,.mp 17,.mp 18,.mp 19,.mp 20,.mp 21,.mp 22,.mp 23,.mp 24,.mp 25,.mp 26,.mp 27,.mp 28,.mp 29,.mp 30,.mp 31,.opq 12,.opq 13,.opq 14,.mp 15] 96)::(9,.row 8 n.N.length ((n.N.flatMap Prm.vals).map .v) 60)::(10,.row 4 n.S.length ((n.S.flatMap Syn.vals).map .v) 55)::(11,.row 2 n.N.length ((List.replicate n.N.length jC).flatMap Ste.cells) 139)::(12,.row 10 rs.length ((rs.flatMap Rul.vals).map .v) 36)::(13,.row 1 pl.length ((qD pl).map .v) 3)::(14,.row 4 n.S.length ((Lnt.m0 ⟨n,rs,pl⟩).flatMap Mrk.cells) 84)::(15,.kmap true true (Lnt.tot ⟨n,rs,pl⟩))::(16,.kmap false false [])::(17,.kmap false false [])::(18,.kmap false false [])::(19,.kmap false false [])::(20,.kmap false false [])::(21,.kmap false false [])::(22,.kmap false false [])::(23,.kmap false false [])::(24,.kmap false false [])::(25,.kmap false false [])::(26,.kmap false false [])::(27,.kmap false false [])::(28,.kmap false false [])::(29,.kmap false false [])::(30,.kmap false false [])::(31,.kmap false false [])::(7,.cells [nq,ii 0,nq] 25)::(6,.cells [.opq 0,ii n.inp,.opq 1] 25)::(0,.rwin 8 n.N.length (n.N.flatMap Prm.vals))::(1,.rwin 4 n.S.length (n.S.flatMap Syn.vals))::(2,.rwin 10 rs.length (rs.flatMap Rul.vals))::(3,.rwin 1 pl.length (qD pl))::(4,.rwin 2 l.length (l.flatMap Evt.vals))::(5,.rwin 3 p.length (p.flatMap Prz.vals))::[]) 32 rfl rfl
  ⟨.inr ⟨4,_,rfl,rfl,rfl,rfl⟩,.inr ⟨5,_,rfl,rfl,by rw[ofx (o:=.row 8 n.N.length ((n.N.flatMap Prm.vals).map .v) 60) (qL _ _)],rfl⟩,.inr ⟨6,_,rfl,rfl,by rw[ofx (o:=.row 4 n.S.length ((n.S.flatMap Syn.vals).map .v) 55) (qL _ _)],rfl⟩,.inr ⟨7,_,rfl,rfl,by rw[ofx (o:=.row 2 n.N.length ((List.replicate n.N.length jC).flatMap Ste.cells) 139) (qS _ _)],rfl⟩,.inr ⟨8,_,rfl,rfl,by rw[ofx (o:=.row 10 rs.length ((rs.flatMap Rul.vals).map .v) 36) (qL _ _)],rfl⟩,.inr ⟨9,_,rfl,rfl,by rw[ofx (o:=.row 1 pl.length ((qD pl).map .v) 3) (qL _ _)],rfl⟩,.inr ⟨10,_,rfl,rfl,by rw[ofx (o:=.row 4 n.S.length ((Lnt.m0 ⟨n,rs,pl⟩).flatMap Mrk.cells) 84) (qN _ _)],rfl⟩,.inr ⟨11,_,rfl,rfl,rfl,rfl⟩,.inr ⟨12,_,rfl,rfl,rfl,rfl⟩,.inr ⟨13,_,rfl,rfl,rfl,rfl⟩,.inr ⟨14,_,rfl,rfl,rfl,rfl⟩,.inr ⟨15,_,rfl,rfl,rfl,rfl⟩,.inr ⟨16,_,rfl,rfl,rfl,rfl⟩,.inr ⟨17,_,rfl,rfl,rfl,rfl⟩,.inr ⟨18,_,rfl,rfl,rfl,rfl⟩,.inr ⟨19,_,rfl,rfl,rfl,rfl⟩,.inr ⟨20,_,rfl,rfl,rfl,rfl⟩,.inr ⟨21,_,rfl,rfl,rfl,rfl⟩,.inr ⟨22,_,rfl,rfl,rfl,rfl⟩,.inr ⟨23,_,rfl,rfl,rfl,rfl⟩,.inr ⟨24,_,rfl,rfl,rfl,rfl⟩,.inr ⟨25,_,rfl,rfl,rfl,rfl⟩,.inr ⟨26,_,rfl,rfl,rfl,rfl⟩,.inr ⟨27,_,rfl,rfl,rfl,rfl⟩,.inl ⟨rfl,by simp⟩,.inl ⟨rfl,by simp⟩,.inl ⟨rfl,by simp⟩,.inl ⟨rfl,by simp⟩,.inl ⟨rfl,by simp⟩,.inl ⟨rfl,by simp⟩,.inl ⟨rfl,by simp⟩,.inl ⟨rfl,by simp⟩,trivial⟩ ?_
 refine Run.W1 (hc w [] none nofun) ?_
 conv=>whnf
 refine Run.rB (g:=24) (vs:=[.agg [.slc 32 0 1 1,ii n.inp,nq],.opq 4,ii K]) (caps:=[]) (.tup [nq,ii (zO ⟨[zB],n.inp,[]⟩ l K 10000)]) (fun ρ w1 hW=>nrun_run ((SV.slc 32 0 1 1).conc ρ) n.inp ((SV.opq 4).conc ρ) l K w1 (hW.rowsAtS (i:=32) rfl rfl (by decide)) (hW.rowsAt rfl)) (ent _ _ Try.func24 (by kernel_rfl) rfl) rfl rfl rfl rfl rfl rfl rfl ⟨trivial,trivial,trivial⟩ ?_
 refine Run.W1 (hc w [] none nofun) ?_
 conv=>whnf
 by_cases h2:zO ⟨[zB],n.inp,[]⟩ l K 10000=0
 case neg=>
  have ht:xN n rs pl l p K=zO ⟨[zB],n.inp,[]⟩ l K 10000:=by unfold xN;rw[if_neg (by simpa using h1),if_pos h2]
  rw[ht,show(zO ⟨[zB],n.inp,[]⟩ l K 10000 != 0)=true by simpa using h2]
  conv=>whnf
  exact⟨fun ρ w' hW _=>⟨rfl,hW.toExt⟩⟩
 have ht:xN n rs pl l p K=jX (rs.length:Int) p:=by unfold xN;rw[if_neg (by simpa using h1),if_neg (by simpa using h2)]
 rw[ht]at he ⊢
 rw[show(zO ⟨[zB],n.inp,[]⟩ l K 10000 != 0)=false by simpa using h2]
 conv=>whnf
 refine Run.rB (g:=51) (vs:=[ii (rs.length:Int),.opq 5]) (caps:=[]) (ii (jX (rs.length:Int) p)) (fun ρ w1 hW=>tT (rs.length:Int) ((SV.opq 5).conc ρ) p w1 (hW.rowsAt rfl)) (ent _ _ Try.func51 (by kernel_rfl) rfl) rfl rfl rfl rfl rfl rfl rfl trivial ?_
 refine Run.W1 (hc w [] none nofun) ?_
 conv=>whnf
 rw[show(jX (rs.length:Int) p != 0)=true by simpa using he]
 conv=>whnf
 exact⟨fun ρ w' hW _=>⟨rfl,hW.toExt⟩⟩
def xI (n:Net)(rs:List Rul)(pl:List Int)(l:List Evt)(p:List Prz)(K:Int):Bool:=
 fewB n rs pl&&(!decide ((300:Int)<(l.length:Int))&&(!decide ((300:Int)<(p.length:Int))&&(!decide (K<0)&&(!decide (200<K)&&(xN n rs pl l p K==0)))))
def caseV (vN vS vR vP vE vZ:Value)(n:Net)(K:Int):Value:=.agg #[vN,.int .i64 n.inp,vS,vR,vP,vE,vZ,.int .i64 K]
structure SmallOK (n:Net) (rs:List Rul) (pl:List Int) (l:List Evt) (p:List Prz) (K:Int):Prop where
 N:n.N.length≤24
 S:n.S.length≤100
 ev:l.length≤300
 pz:p.length≤300
 K0:0≤K
 K1:K≤200
 chk:qZ n rs pl=0
 prep:zO ⟨[zB],n.inp,[]⟩ l K 10000=0
 pzs:jX (rs.length:Int) p=0
theorem small_ok {n:Net}{rs:List Rul}{pl:List Int}{l:List Evt}{p:List Prz}{K:Int}(h:xI n rs pl l p K=true):SmallOK n rs pl l p K:=by
 unfold xI fewB at h
 simp only[Bool.and_eq_true,Bool.not_eq_true',decide_eq_false_iff_not,decide_eq_true_eq,beq_iff_eq,Int.not_lt]at h
 obtain⟨⟨h1,h2,h3,h4⟩,h5,h6,h7,h8,h9⟩:=h
 have e1:qZ n rs pl=0:=by
  unfold xN at h9
  split at h9
  ·rename_i hh;exact absurd h9 hh
  ·rename_i hh;simpa using hh
 have e2:zO ⟨[zB],n.inp,[]⟩ l K 10000=0:=by
  unfold xN at h9
  rw[if_neg (by simpa using e1)]at h9
  split at h9
  ·rename_i hh;exact absurd h9 hh
  ·rename_i hh;simpa using hh
 have e3:jX (rs.length:Int) p=0:=by
  unfold xN at h9
  rw[if_neg (by simpa using e1),if_neg (by simpa using e2)]at h9
  exact h9
 exact⟨by omega,by omega,by omega,by omega,h7,h8,e1,e2,e3⟩
theorem small_run (vN vS:Value)(n:Net)(vR:Value)(rs:List Rul)(vP:Value)(pl:List Int)(vE:Value)(l:List Evt)(vZ:Value)(p:List Prz)(K:Int)(w:World)(hn:xU w vN vS n)(hr:RowsAt w vR 10 rs.length (rs.flatMap Rul.vals))(hpl:RowsAt w vP 1 pl.length (qD pl))(hE:RowsAt w vE 2 l.length (l.flatMap Evt.vals))(hZ:RowsAt w vZ 3 p.length (p.flatMap Prz.vals)) :
  Calls Try.prog 23 #[caseV vN vS vR vP vE vZ n K] w fun e w'=>e = .returned (.bool (xI n rs pl l p K))∧Ext w w':=by
 have hc :∀w L' rd,(∀p,rd=some p→p∈L')→Cx.ok ⟨Try.prog,tab,[],23,Try.f23,[],w,L',rd⟩:=fun w L' rd h=>⟨qI,trivial,Try.func23,mixed,h⟩
 obtain⟨hn1,hn2⟩:=hn
 have hrows:AllP (fun x:Value×Nat×Nat×List Value=>RowsAt w x.1 x.2.1 x.2.2.1 x.2.2.2) [(vN,8,n.N.length,n.N.flatMap Prm.vals),(vS,4,n.S.length,n.S.flatMap Syn.vals),(vR,10,rs.length,rs.flatMap Rul.vals),(vP,1,pl.length,qD pl),(vE,2,l.length,l.flatMap Evt.vals),(vZ,3,p.length,p.flatMap Prz.vals)]:=⟨hn1,hn2,hr,hpl,hE,hZ,trivial⟩
 refine Run.rH (tab:=tab) (pf:=[]) (cuts:=[]) Try.func23 rfl _ hrows [.agg [.opq 0,ii n.inp,.opq 1,.opq 2,.opq 3,.opq 4,.opq 5,ii K]] [caseV vN vS vR vP vE vZ n K] [(0,.rwin 8 n.N.length (n.N.flatMap Prm.vals)),(1,.rwin 4 n.S.length (n.S.flatMap Syn.vals)),(2,.rwin 10 rs.length (rs.flatMap Rul.vals)),(3,.rwin 1 pl.length (qD pl)),(4,.rwin 2 l.length (l.flatMap Evt.vals)),(5,.rwin 3 p.length (p.flatMap Prz.vals))] 6 rfl rfl (by show [Value.agg [(SV.opq 0).conc _,.int .i64 n.inp,(SV.opq 1).conc _,(SV.opq 2).conc _,(SV.opq 3).conc _,(SV.opq 4).conc _,(SV.opq 5).conc _,.int .i64 K].toArray]=_;rw[qM hrows (k:=0) rfl,qM hrows (k:=1) rfl,qM hrows (k:=2) rfl,qM hrows (k:=3) rfl,qM hrows (k:=4) rfl,qM hrows (k:=5) rfl];rfl) (by simp[SV.scs,SV.sc]) rfl (Run.s0 (hc w [] none nofun) 100 _ ?_)
 conv=>whnf
 refine Run.rB (g:=13) (vs:=[.agg [.opq 0,ii n.inp,.opq 1],.opq 2,.opq 3]) (caps:=[]) (.v (.bool (fewB n rs pl))) (fun ρ w1 hW=>few_run _ _ n _ rs _ pl w1 ⟨hW.rowsAt rfl,hW.rowsAt rfl⟩ (hW.rowsAt rfl) (hW.rowsAt rfl)) (ent _ _ Try.func13 (by kernel_rfl) rfl) rfl rfl rfl rfl rfl rfl rfl trivial ?_
 cases b1:fewB n rs pl
 case false=>
  refine Run.W1 (hc w [] none nofun) ?_
  conv=>whnf
  exact⟨fun ρ w' hW _=>⟨by unfold xI;rw[b1];rfl,hW.toExt⟩⟩
 have hfew:=b1
 unfold fewB at hfew
 simp only[Bool.and_eq_true,decide_eq_true_eq]at hfew
 refine Run.W1 (hc w [] none nofun) ?_
 conv=>whnf
 cases b2:decide ((300:Int)<(l.length:Int))
 case true=>
  conv=>whnf
  exact⟨fun ρ w' hW _=>⟨by unfold xI;rw[b1,b2];rfl,hW.toExt⟩⟩
 conv=>whnf
 cases b3:decide ((300:Int)<(p.length:Int))
 case true=>
  conv=>whnf
  exact⟨fun ρ w' hW _=>⟨by unfold xI;rw[b1,b2,b3];rfl,hW.toExt⟩⟩
 conv=>whnf
 cases b4:decide (K<0)
 case true=>
  conv=>whnf
  exact⟨fun ρ w' hW _=>⟨by unfold xI;rw[b1,b2,b3,b4];rfl,hW.toExt⟩⟩
 conv=>whnf
 cases b5:decide (200<K)
 case true=>
  conv=>whnf
  exact⟨fun ρ w' hW _=>⟨by unfold xI;rw[b1,b2,b3,b4,b5];rfl,hW.toExt⟩⟩
 conv=>whnf
 refine Run.rB (g:=15) (vs:=[.agg [.opq 0,ii n.inp,.opq 1],.opq 2,.opq 3]) (caps:=[]) (ii (qZ n rs pl)) (fun ρ w1 hW=>uE _ _ n _ rs _ pl w1 ⟨hW.rowsAt rfl,hW.rowsAt rfl⟩ (hW.rowsAt rfl) (hW.rowsAt rfl)) (ent _ _ Try.func15 (by kernel_rfl) rfl) rfl rfl rfl rfl rfl rfl rfl trivial ?_
 refine Run.W1 (hc w [] none nofun) ?_
 conv=>whnf
 by_cases h1:qZ n rs pl=0
 case neg=>
  have ht:xN n rs pl l p K=qZ n rs pl:=by unfold xN;rw[if_pos h1]
  rw[show(qZ n rs pl != 0)=true by simpa using h1]
  conv=>whnf
  exact⟨fun ρ w' hW _=>⟨by unfold xI;rw[b1,b2,b3,b4,b5,ht,show(qZ n rs pl==0)=false by simpa using h1];rfl,hW.toExt⟩⟩
 rw[show(qZ n rs pl != 0)=false by simpa using h1]
 conv=>whnf
 by_cases h2:xN n rs pl l p K=0
 case neg=>
  refine Run.rB (g:=20) (vs:=[.agg [.opq 0,ii n.inp,.opq 1],.opq 2,.opq 3,.opq 4,.opq 5,ii K]) (caps:=[]) (.tup [nq,.agg [nq,ii 0,nq],ii (xN n rs pl l p K)]) (fun ρ w1 hW=>train_bad _ _ n _ rs _ pl _ l _ p K w1 h2 ⟨hW.rowsAt rfl,hW.rowsAt rfl⟩ (hW.rowsAt rfl) (hW.rowsAt rfl) (hW.rowsAt rfl) (hW.rowsAt rfl)) (ent _ _ Try.func20 (by kernel_rfl) rfl) rfl rfl rfl rfl rfl rfl rfl (by simp[SV.sc,SV.scs]) ?_
  refine Run.W1 (hc w [] none nofun) ?_
  conv=>whnf
  exact⟨fun ρ w' hW _=>⟨by unfold xI;rw[b1,b2,b3,b4,b5];rfl,hW.toExt⟩⟩
 have hsm:xI n rs pl l p K=true:=by unfold xI;rw[b1,b2,b3,b4,b5,h2];rfl
 have hok:=small_ok hsm
 rw[hsm]
 obtain⟨k,rfl⟩:=Int.eq_ofNat_of_zero_le hok.K0
 have hkk:=hok.K1
 have hKN:k*n.N.length≤65536:=Nat.le_trans (Nat.mul_le_mul (show k≤200 by omega) hok.N) (by decide)
 refine Run.rF (vs:=[.agg [.opq 0,ii n.inp,.opq 1],.opq 2,.opq 3,.opq 4,.opq 5,ii (k:Int)]) (caps:=[]) (tC ⟨n,rs,pl⟩ l p k hok.chk hok.prep hok.pzs hKN) (ent _ _ Try.func20 (by kernel_rfl) rfl) rfl rfl rfl rfl rfl rfl rfl (by decide) (by decide) (by repeat first|exact trivial|refine⟨⟨by omega,trivial,⟨_,rfl,Conv.refl _⟩,.inl rfl,fun _=>by simp⟩,?_⟩) (fun i hi=>by cases hi) (.tup [.opq 7,.agg [.opq 8,ii n.inp,.opq 9],ii 0]) [(7,.row 2 (trO ⟨n,rs,pl⟩ l p k).length ((trO ⟨n,rs,pl⟩ l p k).flatMap Evt.cells) 62),(6,.cells [.opq 0,ii n.inp,.opq 1,.opq 2,.opq 3,.opq 4,.opq 5,ii (k:Int)] 45)] 10 rfl rfl
  ⟨.inr ⟨6,_,rfl,rfl,(ofx (o:=.row 2 (trO ⟨n,rs,pl⟩ l p k).length ((trO ⟨n,rs,pl⟩ l p k).flatMap Evt.cells) 62) (zT _ _)).symm,rfl⟩,.inl ⟨rfl,by simp⟩,trivial⟩ ?_
 refine Run.W1 (hc w [] none nofun) ?_
 conv=>whnf
 exact⟨fun ρ w' hW _=>⟨rfl,hW.toExt⟩⟩
end Go.Proofs.Ytnnlpdgnlccbjaa
