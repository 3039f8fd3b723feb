/-
  Laws of the small executor, and walks of the functions that the statement reaches (part 13 of several, put together out of smaller texts).
  The conditions stand with each law.
-/
import Derived.SizedLaws
import Derived.Test.YtnnlpdgnlccbjaaMKl
namespace Go.Proofs.Ytnnlpdgnlccbjaa
open Go.Sx
open Go.ChangeShapes Go.WideShapes Go.ChangeAt Go.RowKit Go.Deep Go.Joins
set_option maxRecDepth 100000
section
variable {H:Type} {enc:TypeId × Value→H} {W:World} {base b0:Nat} {spare:Nat→Bool} {held:Bool} {r:Reach} {v:Value} {d:DataW H} {pl:List MemPlace}
/-- How long a slice's datum is. -/
def LenD (d:DataW H) (n:Nat):Prop:=(d = .nil∧n=0) ∨ ∃ es sp,d = .slice es sp∧es.length=n
theorem el_rowsD {α : Type} {t e:TypeId} {k:Nat} (vals : α → List Value) (hvl : ∀ a,(vals a).length=k) (hk:0<k) (ht:Try.prog.underlying t=some (.slice e)) (hc:Try.prog.cellsOf e=k)
  (hel : ∀ {n:Nat} {cs:List Value} {y:DataW H × List MemPlace},DataW.trod enc Try.prog W base spare held n e cs=some y → ∃ p : α,cs=vals p) {n:Nat} {cs:List Value} {y:DataW H × List MemPlace} (h:DataW.trod enc Try.prog W base spare held n t cs=some y) :
  ∃ (v:Value) (l:List α),cs=[v]∧RowsAt W v k l.length (l.flatMap vals)∧LenD y.1 l.length:=by
 obtain ⟨v,l,h1,h2,_⟩:=el_rows vals hvl hk ht hc hel h
 refine ⟨v,l,h1,h2,?_⟩
 obtain ⟨_,p,c,hv,_⟩:=h2
 rcases DataW.trod_slice ht h with ⟨g0,g1⟩ | ⟨a,len,cap,elems,rest,m,_,g0,g1,_,_,_,g2,_⟩
 ·refine .inl ⟨by rw [g1],?_⟩
  rw [h1,hv] at g0
  simp only [List.cons.injEq,Value.slice.injEq,and_true] at g0
  exact g0.2.1
 ·refine .inr ⟨_,_,by rw [g1],?_⟩
  rw [h1,hv] at g0
  simp only [List.cons.injEq,Value.slice.injEq,and_true] at g0
  rw [List.length_map,g2]
  exact g0.2.1.symm
theorem el_case {n:Nat} {cs:List Value} {y:DataW H × List MemPlace} (h:DataW.trod enc Try.prog W base spare held n 45 cs=some y) :
  ∃ (vN vS vR vP vE vZ:Value) (x:Net) (rs:List Rul) (p:List Int) (l:List Evt) (z:List Prz) (K:Int),cs=[vN,.int .i64 x.inp,vS,vR,vP,vE,vZ,.int .i64 K]∧IsNet W vN vS x∧RowsAt W vR 10 rs.length (rs.flatMap Rul.vals)∧RowsAt W vP 1 p.length (ints p)∧RowsAt W vE 2 l.length (l.flatMap Evt.vals)∧RowsAt W vZ 3 z.length (z.flatMap Prz.vals) ∧
   ∃ dn dr ds,y.1 = .agg (dn::dr::ds)∧LenD dr rs.length:=by
 obtain ⟨xs,m,_,hx,hlen,hxl,hg⟩:=DataW.trod_struct Try.underlying45 h
 have hC:Try.prog.cellsOf 45=8:=by kernel_rfl
 rw [hC] at hlen
 match cs,hlen with
 | [c0,c1,c2,c3,c4,c5,c6,c7],_ =>
  match xs,hxl with
  | [y0,y1,y2,y3,y4,y5],_ =>
   have h1:Try.prog.cellsOf 3=1:=by kernel_rfl
   have h2:Try.prog.cellsOf 25=3:=by kernel_rfl
   have h3:Try.prog.cellsOf 26=1:=by kernel_rfl
   have h4:Try.prog.cellsOf 27=1:=by kernel_rfl
   have h5:Try.prog.cellsOf 42=1:=by kernel_rfl
   have h6:Try.prog.cellsOf 43=1:=by kernel_rfl
   have g0:DataW.trod enc Try.prog W base spare held m 25 [c0,c1,c2]=some y0:=by simpa [h2] using hg 0 _ rfl
   have g1:DataW.trod enc Try.prog W base spare held m 26 [c3]=some y1:=by simpa [h3] using hg 1 _ rfl
   have g2:DataW.trod enc Try.prog W base spare held m 27 [c4]=some y2:=by simpa [h4] using hg 2 _ rfl
   have g3:DataW.trod enc Try.prog W base spare held m 42 [c5]=some y3:=by simpa [h5] using hg 3 _ rfl
   have g4:DataW.trod enc Try.prog W base spare held m 43 [c6]=some y4:=by simpa [h6] using hg 4 _ rfl
   have g5:DataW.trod enc Try.prog W base spare held m 3 [c7]=some y5:=by simpa [h1] using hg 5 _ rfl
   obtain ⟨vN,vS,x,e0,r0⟩:=el_net g0
   obtain ⟨v1,l1,e1,r1,d1⟩:=el_rowsD Rul.vals Rul.vlen (by decide) Try.underlying26 (by kernel_rfl) el_rul g1
   obtain ⟨v2,l2,e2,r2,_⟩:=el_introw g2
   obtain ⟨v3,l3,e3,r3,_⟩:=el_rows Evt.vals Evt.vlen (by decide) Try.underlying42 (by kernel_rfl) el_evt g3
   obtain ⟨v4,l4,e4,r4,_⟩:=el_rows Prz.vals Prz.vlen (by decide) Try.underlying43 (by kernel_rfl) el_prz g4
   obtain ⟨K,e5⟩:=el_int g5
   simp only [List.cons.injEq,and_true] at e0 e1 e2 e3 e4 e5
   obtain ⟨rfl,rfl,rfl⟩:=e0
   subst e1 e2 e3 e4 e5
   exact ⟨_,_,_,_,_,_,x,l1,l2,l3,l4,K,rfl,r0,r1,r2,r3,r4,y0.1,y1.1,[y2.1,y3.1,y4.1,y5.1],by rw [hx]; rfl,d1⟩
theorem open_case (hv:Value.okWide Try.prog W r b0 45 v) (h:DataW.Trod enc Try.prog W base spare held 45 v d pl) (hw : ∀ n∈DataW.weights Try.prog 45 d,n≤reachBytes) :
  ∃ (vN vS vR vP vE vZ:Value) (x:Net) (rs:List Rul) (p:List Int) (l:List Evt) (z:List Prz) (K:Int),v=caseV vN vS vR vP vE vZ x K∧IsNet W vN vS x∧RowsAt W vR 10 rs.length (rs.flatMap Rul.vals)∧RowsAt W vP 1 p.length (ints p)∧RowsAt W vE 2 l.length (l.flatMap Evt.vals)∧RowsAt W vZ 3 z.length (z.flatMap Prz.vals) ∧
   rs.length*80≤140737488355328:=by
 obtain ⟨cs,rfl,hsz⟩:=okWide_struct Try.underlying45 hv
 obtain ⟨q⟩:=cs
 obtain ⟨fuel,hf⟩:=h
 obtain ⟨vN,vS,vR,vP,vE,vZ,x,rs,p,l,z,K,hp,h1,h2,h3,h4,h5,dn,dr,ds,hd,hl⟩:=el_case hf
 simp [Value.cells] at hp
 subst hp
 refine ⟨vN,vS,vR,vP,vE,vZ,x,rs,p,l,z,K,rfl,h1,h2,h3,h4,h5,?_⟩
 rcases hl with ⟨_,h0⟩ | ⟨es,sp,he,hl⟩
 ·rw [h0]; decide
 ·have hd:d = .agg (dn::dr::ds):=hd
  have hb:Try.prog.bytesOf 36=80:=by kernel_rfl
  have hm:(es.length+sp.length)*Try.prog.bytesOf 36∈DataW.weights Try.prog 45 d:=by
   rw [hd,he]
   simp only [DataW.weights,Try.underlying45,List.map,DataW.weightsEach,Try.underlying26,List.mem_append,List.mem_cons]
   exact .inr (.inl (.inl trivial))
  have:=hw _ hm
  rw [hb,hl] at this
  unfold reachBytes at this
  omega
end
end Go.Proofs.Ytnnlpdgnlccbjaa
namespace Go.Proofs.Ytnnlpdgnlccbjaa
open Go.Sx
set_option maxRecDepth 100000
set_option maxHeartbeats 2000000
theorem pw_of_adj {α : Type} {R : α → α → Prop} (tr : ∀ a b c,R a b→R b c→R a c) : ∀ (l:List α),(∀ i (h:i+1<l.length),R (l[i]'(by omega)) l[i+1])→l.Pairwise R
 | [],_ => .nil
 | [a],_=>List.pairwise_singleton _ _
 | a::b::l,h=>by
  have ih:=pw_of_adj tr (b::l) (fun i hi=>h (i+1) (by simpa using hi))
  have hab:R a b:=h 0 (by simp)
  refine .cons (fun x hx => ?_) ih
  rcases List.mem_cons.1 hx with rfl | hx
  ·exact hab
  ·exact tr _ _ _ hab ((List.pairwise_cons.1 ih).1 x hx)
structure EvsOK (inp:Int) (l:List Evt):Prop where
 t0 : ∀ e∈l,0≤e.tick
 id : ∀ e∈l,0≤e.id∧e.id≤inp-1
 pw:l.Pairwise (fun a b=>a.tick<b.tick∨a.tick=b.tick∧a.id<b.id)
theorem evs_ok {inp:Int} {l:List Evt} (h:evsChk inp 10000 l=0) (h0:0≤inp∧inp≤256):EvsOK inp l:=by
 unfold evsChk at h
 split at h
 ·cases h
 have hz : ∀ i,i<l.length→evAt inp 10000 l i=0:=fun i hi=>by
  have:=firstE_zero h i (by simpa using hi)
  simpa only [List.getElem_range] using this
 have e2:W (inp-1)=inp-1:=W_id (by omega) (by omega)
 have hi1 : ∀ i (hi:i<l.length),0≤l[i].tick∧0≤l[i].id∧l[i].id≤inp-1:=fun i hi=>by
  have:=hz i hi
  unfold evAt at this
  have e:l.getD i evt0=l[i]:=by simp [List.getD_eq_getElem?_getD,hi]
  rw [e,e2] at this
  split at this
  ·cases this
  rename_i hw
  simp only [Bool.not_eq_false,Bool.and_eq_true,wi_iff] at hw
  omega
 refine ⟨fun e he => ?_,fun e he => ?_,pw_of_adj (fun a b c h1 h2=>by omega) l fun i hi => ?_⟩
 ·obtain ⟨i,hi,rfl⟩:=List.getElem_of_mem he; exact (hi1 i hi).1
 ·obtain ⟨i,hi,rfl⟩:=List.getElem_of_mem he; exact (hi1 i hi).2
 ·have:=hz (i+1) hi
  unfold evAt at this
  have ea:l.getD i evt0=l[i]:=by simp [List.getD_eq_getElem?_getD,show i<l.length by omega]
  have eb:l.getD (i+1) evt0=l[i+1]:=by simp [List.getD_eq_getElem?_getD,hi]
  rw [Nat.add_sub_cancel,ea,eb] at this
  split at this
  ·cases this
  split at this
  ·cases this
  ·rename_i h3
   omega
theorem EvsOK.le {inp:Int} {l:List Evt} (h:EvsOK inp l):l.Pairwise (fun a b=>a.tick≤b.tick):=h.pw.imp (by intro a b h; omega)
theorem EvsOK.ins {inp:Int} {l:List Evt} (h:EvsOK inp l) (h0:0≤inp∧inp≤256) (t:Int):insChk inp (atIn l t)=0:=by
 have e2:W (inp-1)=inp-1:=W_id (by omega) (by omega)
 have hm : ∀ a∈atIn l t,0≤a∧a≤inp-1:=fun a ha=>by
  rw [atIn_eq] at ha
  obtain ⟨e,he,rfl⟩:=List.mem_map.1 ha
  exact h.id e (List.mem_filter.1 he).1
 have hp:(atIn l t).Pairwise (· < ·):=by
  rw [atIn_eq,List.pairwise_map]
  have h1:=h.pw.filter (fun e=>e.tick==t)
  refine List.Pairwise.imp_of_mem (fun {a b} ha hb hab => ?_) h1
  have ta:a.tick=t:=by simpa using (List.mem_filter.1 ha).2
  have tb:b.tick=t:=by simpa using (List.mem_filter.1 hb).2
  omega
 unfold insChk
 refine firstN_all fun j hj => ?_
 unfold inAt
 have e:(atIn l t).getD j 0=(atIn l t)[j]:=by simp [List.getD_eq_getElem?_getD,hj]
 have hj1:=hm _ (List.getElem_mem hj)
 rw [e,e2]
 rw [if_neg (by
  rw [Bool.not_eq_false,wi_iff]; exact hj1)]
 by_cases h1:j=0
 ·rw [if_neg (by omega)]
 ·have e3:(atIn l t).getD (j-1) 0=(atIn l t)[j-1]:=by simp [List.getD_eq_getElem?_getD,show j-1<(atIn l t).length by omega]
  rw [e3]
  have:=List.pairwise_iff_getElem.1 hp (j-1) j (by omega) hj (by omega)
  rw [if_neg (by omega)]
structure PzsOK (R:Nat) (l:List Prz):Prop where
 t0 : ∀ e∈l,0≤e.tick
 id : ∀ e∈l,0≤e.id∧e.id<(R:Int)
 val : ∀ e∈l,-128≤e.val∧e.val≤127
 le:l.Pairwise (fun a b=>a.tick≤b.tick)
theorem pzs_ok {R:Nat} {l:List Prz} (h:pzsChk (R:Int) l=0) (hR:R≤16):PzsOK R l:=by
 have h1:=pzs_rule h ⟨by omega,by omega⟩
 unfold pzsChk at h
 split at h
 ·cases h
 have hz : ∀ i,i<l.length→pzAt (R:Int) l i=0:=fun i hi=>by
  have:=firstE_zero h i (by simpa using hi)
  simpa only [List.getElem_range] using this
 refine ⟨fun e he => ?_,fun e he=>⟨(h1 e he).1,(h1 e he).2.1⟩,fun e he=>(h1 e he).2.2,pw_of_adj (R:=fun (a b:Prz)=>a.tick≤b.tick) (fun a b c h1 h2=>Int.le_trans h1 h2) l fun i hi => ?_⟩
 ·obtain ⟨i,hi,rfl⟩:=List.getElem_of_mem he
  have:=hz i hi
  unfold pzAt at this
  have e:l.getD i prz0=l[i]:=by simp [List.getD_eq_getElem?_getD,hi]
  rw [e] at this
  split at this
  ·cases this
  rename_i hw
  simp only [Bool.not_eq_false,Bool.and_eq_true,wi_iff] at hw
  omega
 ·have:=hz (i+1) hi
  unfold pzAt at this
  have ea:l.getD i prz0=l[i]:=by simp [List.getD_eq_getElem?_getD,show i<l.length by omega]
  have eb:l.getD (i+1) prz0=l[i+1]:=by simp [List.getD_eq_getElem?_getD,hi]
  rw [Nat.add_sub_cancel,ea,eb] at this
  split at this
  ·cases this
  split at this
  ·cases this
  ·rename_i h3
   omega
theorem PzsOK.rw {R:Nat} {l:List Prz} (h:PzsOK R l) (t:Int):rwChk R (atRw R l t)=0:=by
 have hm : ∀ a∈atRw R l t,-128≤a∧a≤127:=by
  unfold atRw
  have : ∀ (p:List Prz) (a:List Int),(∀ e∈p,-128≤e.val∧e.val≤127)→(∀ y∈a,-128≤y∧y≤127) → ∀ y∈p.foldl (rwStep t) a,-128≤y∧y≤127:=by
   intro p
   induction p with
   | nil=>intro a _ h; exact h
   | cons e p ih =>
    intro a hv ha
    refine ih _ (fun x hx=>hv x (List.mem_cons_of_mem _ hx)) ?_
    unfold rwStep
    split
    ·intro y hy
     rcases List.mem_or_eq_of_mem_set hy with hy | rfl
     ·exact ha y hy
     ·exact hv e (List.mem_cons_self ..)
    ·exact ha
  refine this l _ h.val fun y hy => ?_
  obtain ⟨_,rfl⟩:=List.mem_replicate.1 hy
  omega
 unfold rwChk
 split
 ·rfl
 rw [atRw_len,if_neg (by simp),rwBad_no hm]
 rfl
theorem rwOf_at {R:Nat} {l:List Int} (h:l.length=R):rwOf R l=l:=by
 unfold rwOf
 split
 ·rename_i h0
  have:l=[]:=List.length_eq_zero_iff.1 (by omega)
  subst this
  obtain rfl:R=0:=by simpa using h.symm
  rfl
 ·rfl
theorem prep_evs {inp:Int} {l:List Evt} {K:Int} (h:prepChk ⟨[prm1],inp,[]⟩ l K 10000=0):evsChk inp 10000 l=0:=by
 unfold prepChk at h
 split at h
 ·rename_i h1; exact absurd h h1
 split at h
 ·cases h
 exact h
def Kept (x:Lnt) (s:Lst):Prop := ∀ r p:Int,(x.rs.getD r.toNat rul0).sum=true→gsum (grp x.n.S x.pl r p) s.m=gsum (grp x.n.S x.pl r p) x.m0
theorem Kept.start (x:Lnt):Kept x x.new:=fun _ _ _=>rfl
theorem m0_bounds {x:Lnt} (hx:NetOK x) : ∀ i∈plIdx x.pl,-255≤wAt x.m0 i∧wAt x.m0 i≤255:=fun i hi=>by
 have h0:=LInv.start hx
 have h1:=(h0.mok i hi).w0
 have h2:=(h0.mok i hi).w1
 have h3:=(hx.good hi).bounds
 have e:x.new.m=x.m0:=rfl
 rw [e] at h1 h2
 unfold wAt
 omega
theorem Kept.next {x:Lnt} {s:Lst} (hx:NetOK x) (h:LInv x s) (ins rw0:List Int):Kept x (lN x s ins rw0):=by
 intro r p hr
 obtain ⟨_,_,hR⟩:=lR_all hx h rw0
 show gsum _ (lR x s rw0)=_
 rw [hR.sum r p hr]
 unfold Lnt.tot
 have hl:=hx.lpl
 have hS:=hx.S1
 exact sumsL_kiv x.n.S x.rs x.pl x.m0 r p hr (m0_bounds hx) (by omega)
/-- The sum of a rule and a neuron, less what it was at first, over the first synapses. -/
def kTerm (x:Lnt) (m:List Mrk) (r p:Int) (i:Nat):Int:=if x.pl.getD i (-1)=r∧(x.n.S.getD i syn0).to=p then wAt m i-(x.n.S.getD i syn0).w else 0
def kSum (x:Lnt) (m:List Mrk) (r p:Int):Nat→Int
 | 0=>0
 | j+1=>kSum x m r p j+kTerm x m r p j
theorem gsum_app (a b:List Nat) (m:List Mrk):gsum (a++b) m=gsum a m+gsum b m:=by
 induction a with
 | nil=>simp [gsum]
 | cons i a ih =>
  show wAt m i+gsum (a++b) m=(wAt m i+gsum a m)+gsum b m
  rw [ih]; omega
theorem kSum_gsum (x:Lnt) (m:List Mrk) (r p:Int) (hr:0≤r) : ∀ j,kSum x m r p j=gsum ((List.range j).filter fun i=>decide (x.pl.getD i (-1)=r∧(x.n.S.getD i syn0).to=p)) m-gsum ((List.range j).filter fun i=>decide (x.pl.getD i (-1)=r∧(x.n.S.getD i syn0).to=p)) x.m0
 | 0=>rfl
 | j+1=>by
  unfold kSum
  rw [kSum_gsum x m r p hr j,List.range_succ,List.filter_append,gsum_app,gsum_app]
  have e:wAt x.m0 j=(x.n.S.getD j syn0).w:=by unfold wAt; rw [m0_get]; rfl
  unfold kTerm
  by_cases h:x.pl.getD j (-1)=r∧(x.n.S.getD j syn0).to=p
  ·rw [if_pos h,List.filter_cons,if_pos (by simpa using h)]
   simp only [List.filter_nil,gsum,e]
   omega
  ·rw [if_neg h,List.filter_cons,if_neg (by simpa using h)]
   simp only [List.filter_nil,gsum]
   omega
theorem grp_range (x:Lnt) (r p:Int) (hr:0≤r):grp x.n.S x.pl r p=(List.range x.pl.length).filter fun i=>decide (x.pl.getD i (-1)=r∧(x.n.S.getD i syn0).to=p):=by
 unfold grp plIdx
 rw [List.filter_filter]
 apply List.filter_congr
 intro i _
 by_cases h:x.pl.getD i (-1)=r∧(x.n.S.getD i syn0).to=p
 ·rw [decide_eq_true h,decide_eq_true (show 0≤x.pl.getD i (-1) by omega)]; rfl
 ·rw [decide_eq_false h]; rfl
theorem kSum_zero {x:Lnt} {s:Lst} (h:Kept x s) (r p:Int) (hr:0≤r) (hs:(x.rs.getD r.toNat rul0).sum=true):kSum x s.m r p x.pl.length=0:=by
 rw [kSum_gsum x s.m r p hr,← grp_range x r p hr,h r p hs]; omega
theorem w_bounds {x:Lnt} {s:Lst} (hx:NetOK x) (h:LInv x s) {i:Nat} (hi:i∈plIdx x.pl):(x.rul i).lo≤wAt s.m i∧wAt s.m i≤(x.rul i).hi ∧ -255≤wAt s.m i∧wAt s.m i≤255:=by
 have h1:=h.mok i hi
 have h3:=(hx.good hi).bounds
 have h4:=h1.w0
 have h5:=h1.w1
 unfold wAt
 omega
theorem kTerm_bound {x:Lnt} {s:Lst} (hx:NetOK x) (h:LInv x s) (r p:Int) (hr:0≤r) (i:Nat) : -510≤kTerm x s.m r p i∧kTerm x s.m r p i≤510:=by
 unfold kTerm
 split
 ·rename_i hc
  have e:wAt x.m0 i=(x.n.S.getD i syn0).w:=by unfold wAt; rw [m0_get]; rfl
  by_cases hi:i<x.pl.length
  ·have hp:i∈plIdx x.pl:=plIdx_iff.2 ⟨hi,by omega⟩
   have h1:=w_bounds hx h hp
   have h2:=m0_bounds hx i hp
   omega
  ·have:x.pl.getD i (-1) = -1:=by simp [List.getD_eq_getElem?_getD,show x.pl.length≤i by omega]
   omega
 ·omega
theorem kSum_bound {x:Lnt} {s:Lst} (hx:NetOK x) (h:LInv x s) (r p:Int) (hr:0≤r) : ∀ j:Nat,-510*(j:Int)≤kSum x s.m r p j∧kSum x s.m r p j≤510*(j:Int)
 | 0=>by simp [kSum]
 | j+1=>by
  have:=kSum_bound hx h r p hr j
  have:=kTerm_bound hx h r p hr j
  unfold kSum
  omega
/-- The weights of synapses that do not learn. -/
theorem w_other {x:Lnt} {s:Lst} (h:LInv x s) {i:Nat} (hi:i∉plIdx x.pl):wAt s.m i=(x.n.S.getD i syn0).w:=by
 unfold wAt
 rw [h.oth i hi,m0_get]; rfl
/-- The weights now. -/
theorem now_get {x:Lnt} {s:Lst} (h:LInv x s) {i:Nat} (hi:i<x.n.S.length):(nowL x.n.S s.m).getD i syn0={ x.n.S.getD i syn0 with w:=wAt s.m i }:=by
 unfold nowL
 rw [nowY_get,if_pos ⟨by rw [h.lm]; exact hi,hi⟩]; rfl
theorem now_len (x:Lnt) (s:Lst):(nowL x.n.S s.m).length=x.n.S.length:=nowY_len ..
end Go.Proofs.Ytnnlpdgnlccbjaa
namespace Go.Sx
end Go.Sx
namespace Go.Proofs.Ytnnlpdgnlccbjaa
open Go.Sx
set_option maxRecDepth 100000
set_option maxHeartbeats 8000000
theorem Rul.clen (r:Rul):r.cells.length=10:=rfl
theorem rwOf_nil (R:Nat):rwOf R []=List.replicate R 0:=rfl
theorem atIn_len (l:List Evt) (t:Int):(atIn l t).length≤l.length:=by
 rw [atIn_eq,List.length_map]; exact List.length_filter_le ..
section
variable {tab:Tab} {pf:PF} {T:Tm} {M:Mem} {n:Nat} {t:TypeId} {x y:Operand} {ti:TI} {j e m:Nat} {o:SObj} {vs:List Value}
end
end Go.Proofs.Ytnnlpdgnlccbjaa
namespace Go.Proofs.Ytnnlpdgnlccbjaa
open Go.Sx
set_option maxRecDepth 100000
set_option maxHeartbeats 16000000
theorem kept_run (w:World) (x:Lnt) (s:Lst) (hx:NetOK x) (h:LInv x s) (hk:Kept x s) (vN vS vR vP vE vZ vN2 vS2:Value) (l:List Evt) (p:List Prz) (K:Int) (hn:IsNet w vN vS x.n) (hr:RowsAt w vR 10 x.rs.length (x.rs.flatMap Rul.vals)) (hpl:RowsAt w vP 1 x.pl.length (ints x.pl)) (hE:RowsAt w vE 2 l.length (l.flatMap Evt.vals)) (hZ:RowsAt w vZ 3 p.length (p.flatMap Prz.vals)) (hN2:RowsAt w vN2 8 x.n.N.length (x.n.N.flatMap Prm.vals)) (hS2:RowsAt w vS2 4 x.n.S.length ((nowL x.n.S s.m).flatMap Syn.vals)) :
  Calls Try.prog 29 #[caseV vN vS vR vP vE vZ x.n K,.agg #[vN2,.int .i64 x.n.inp,vS2]] w fun e w'=>e = .returned (.bool true)∧Ext w w':=by
 have hc : ∀ w L' rd,(∀ p,rd=some p→p∈L')→Cx.ok ⟨Try.prog,tab,[],29,Try.f29,[],w,L',rd⟩:=fun w L' rd h=>⟨tab_ok,trivial,Try.func29,mixed,h⟩
 have hx1:=hx.N2
 have hx2:=hx.S1
 have hx3:=hx.rl
 have hx4:x.pl.length=x.n.S.length:=hx.lpl
 have hLl:=now_len x s
 have hLg : ∀ i (hi:i<x.n.S.length),(nowL x.n.S s.m)[i]'(by rw [hLl]; exact hi)={ x.n.S[i] with w:=wAt s.m i }:=fun i hi=>by
  have:=now_get h hi
  rw [List.getD_eq_getElem?_getD,List.getElem?_eq_getElem (by rw [hLl]; exact hi),List.getD_eq_getElem?_getD,List.getElem?_eq_getElem hi] at this
  exact this
 obtain ⟨L,hL⟩ : ∃ L,nowL x.n.S s.m=L:=⟨_,rfl⟩
 simp only [hL] at hLl hLg
 rw [hL] at hS2
 obtain ⟨hn1,hn2⟩:=hn
 have hrows:AllP (fun x:Value × Nat × Nat × List Value=>RowsAt w x.1 x.2.1 x.2.2.1 x.2.2.2) [(vN,8,x.n.N.length,x.n.N.flatMap Prm.vals),(vS,4,x.n.S.length,x.n.S.flatMap Syn.vals),(vR,10,x.rs.length,x.rs.flatMap Rul.vals),(vP,1,x.pl.length,ints x.pl),(vE,2,l.length,l.flatMap Evt.vals),(vZ,3,p.length,p.flatMap Prz.vals),(vN2,8,x.n.N.length,x.n.N.flatMap Prm.vals),(vS2,4,x.n.S.length,L.flatMap Syn.vals)]:=⟨hn1,hn2,hr,hpl,hE,hZ,hN2,hS2,trivial⟩
 refine Run.startW (tab:=tab) (pf:=[]) (cuts:=[]) Try.func29 rfl _ hrows [.agg [.opq 0,ii x.n.inp,.opq 1,.opq 2,.opq 3,.opq 4,.opq 5,ii K],.agg [.opq 6,ii x.n.inp,.opq 7]] [caseV vN vS vR vP vE vZ x.n K,.agg #[vN2,.int .i64 x.n.inp,vS2]] [(0,.rwin 8 x.n.N.length (x.n.N.flatMap Prm.vals)),(1,.rwin 4 x.n.S.length (x.n.S.flatMap Syn.vals)),(2,.rwin 10 x.rs.length (x.rs.flatMap Rul.vals)),(3,.rwin 1 x.pl.length (ints x.pl)),(4,.rwin 2 l.length (l.flatMap Evt.vals)),(5,.rwin 3 p.length (p.flatMap Prz.vals)),(6,.rwin 8 x.n.N.length (x.n.N.flatMap Prm.vals)),(7,.rwin 4 x.n.S.length (L.flatMap Syn.vals))] 8 rfl rfl (by show [Value.agg [(SV.opq 0).conc _,.int .i64 x.n.inp,(SV.opq 1).conc _,(SV.opq 2).conc _,(SV.opq 3).conc _,(SV.opq 4).conc _,(SV.opq 5).conc _,.int .i64 K].toArray,.agg [(SV.opq 6).conc _,.int .i64 x.n.inp,(SV.opq 7).conc _].toArray]=_; rw [conc_rows hrows (k:=0) rfl,conc_rows hrows (k:=1) rfl,conc_rows hrows (k:=2) rfl,conc_rows hrows (k:=3) rfl,conc_rows hrows (k:=4) rfl,conc_rows hrows (k:=5) rfl,conc_rows hrows (k:=6) rfl,conc_rows hrows (k:=7) rfl]; rfl) (by simp [SV.scs,SV.sc]) rfl (Run.of_wpK (hc w [] none (fun _ h=>by cases h)) 100 _ ?_)
 conv=>whnf
 rw [show ((x.n.S.length:Int) != (x.n.S.length:Int))=false by simp]
 conv=>whnf
 rw [show ((x.pl.length:Int) != (x.n.S.length:Int))=false by simp [hx4]]
 conv=>whnf
 refine Run.trim (T':=[(2,.ptr 8 0),(3,.ptr 9 0),(5,ii (((0:Nat):Nat):Int))]) (M':=[(9,.cells [.opq 6,ii x.n.inp,.opq 7] 25),(8,.cells [.opq 0,ii x.n.inp,.opq 1,.opq 2,.opq 3,.opq 4,.opq 5,ii K] 45),(0,.rwin 8 x.n.N.length (x.n.N.flatMap Prm.vals)),(1,.rwin 4 x.n.S.length (x.n.S.flatMap Syn.vals)),(2,.rwin 10 x.rs.length (x.rs.flatMap Rul.vals)),(3,.rwin 1 x.pl.length (ints x.pl)),(7,.rwin 4 x.n.S.length (L.flatMap Syn.vals))]) 10 ⟨⟨rfl,(show 8<10 by decide)⟩,⟨rfl,(show 9<10 by decide)⟩,⟨rfl,trivial⟩,trivial⟩ ⟨⟨rfl,by omega,by simp [SObj.sc,SV.scs,SV.sc]⟩,⟨rfl,by omega,by simp [SObj.sc,SV.scs,SV.sc]⟩,⟨rfl,by omega,trivial⟩,⟨rfl,by omega,trivial⟩,⟨rfl,by omega,trivial⟩,⟨rfl,by omega,trivial⟩,⟨rfl,by omega,trivial⟩,trivial⟩ (fun p hp=>by cases hp) ?_
 refine Run.upToJ (T:=fun i=>[(2,.ptr 8 0),(3,.ptr 9 0),(5,ii ((i:Nat):Int))]) (M:=fun i=>[(9,.cells [.opq 6,ii x.n.inp,.opq 7] 25),(8,.cells [.opq 0,ii x.n.inp,.opq 1,.opq 2,.opq 3,.opq 4,.opq 5,ii K] 45),(0,.rwin 8 x.n.N.length (x.n.N.flatMap Prm.vals)),(1,.rwin 4 x.n.S.length (x.n.S.flatMap Syn.vals)),(2,.rwin 10 x.rs.length (x.rs.flatMap Rul.vals)),(3,.rwin 1 x.pl.length (ints x.pl)),(7,.rwin 4 x.n.S.length (L.flatMap Syn.vals))]) (fun _=>True) (x.n.S.length) (trivial) ?_ ?_
 ·intro i hi hJ ih
  refine Run.of_wpK (hc w [] none (fun _ h=>by cases h)) 1000 _ ?_
  conv=>whnf
  rw [decide_eq_true (show ((i:Nat):Int)<(x.n.S.length:Int) by omega)]
  conv=>whnf
  have hiL:i<L.length:=by omega
  have hip:i<x.pl.length:=by omega
  have hgi:=hLg i hi
  have hpd:x.pl.getD i (-1)=x.pl[i]:=by simp [List.getD_eq_getElem?_getD,hip]
  have hgd:x.n.S.getD i syn0=x.n.S[i]:=by simp [List.getD_eq_getElem?_getD,hi]
  obtain ⟨y,hy⟩ : ∃ y,x.n.S[i]=y:=⟨_,rfl⟩
  rw [hy] at hgi hgd
  have hp1:=hx.p1 i hip
  obtain ⟨k,hkp⟩ : ∃ k,x.pl[i]=k:=⟨_,rfl⟩
  rw [hkp] at hpd hp1
  refine Run.draw (hc w [] none (fun _ h=>by cases h)) 15 ?_
  rw [show upto 0 15=upto 0 5++(upto 5 6++upto 11 4) from rfl]
  simp only [drawK_app]
  conv=>whnf
  refine ⟨by omega,?_⟩
  conv=>whnf
  rw [opF_loadW (f:=Syn.vals) (l:=L) i rfl rfl rfl rfl rfl Syn.vlen (by rw [idx_nat]) hiL,hgi]
  conv=>whnf
  refine ⟨by omega,?_⟩
  conv=>whnf
  rw [opF_loadW (f:=Syn.vals) (l:=x.n.S) i rfl rfl rfl rfl rfl Syn.vlen (by rw [idx_nat]) hi,hy]
  conv=>whnf
  refine ⟨by kernel_rfl,?_⟩
  refine Run.of_wpK (hc w [] none (fun _ h=>by cases h)) 1000 _ ?_
  conv=>whnf
  rw [show (y.fr != y.fr)=false by simp]
  conv=>whnf
  rw [show (y.to != y.to)=false by simp]
  conv=>whnf
  rw [show (y.d != y.d)=false by simp]
  conv=>whnf
  refine ⟨by omega,?_⟩
  conv=>whnf
  rw [opF_load1 i rfl rfl rfl rfl (by rw [idx_nat,Nat.mul_one]) (ints_get hip)]
  conv=>whnf
  rw [hkp]
  cases hneg:decide (k<0)
  case true =>
   have hlt:=of_decide_eq_true hneg
   have hni:i∉plIdx x.pl:=fun hh=>by
    have:=(plIdx_iff.1 hh).2
    omega
   have hwo:=w_other h hni
   rw [hgd] at hwo
   conv=>whnf
   rw [hwo,show (y.w != y.w)=false by simp]
   conv=>whnf
   refine Run.draw (hc w [] none (fun _ h=>by cases h)) 36 ?_
   rw [show upto 0 36=upto 0 4++(upto 4 1++(upto 5 2++(upto 7 1++upto 8 28))) from rfl]
   simp only [drawK_app]
   conv=>whnf
   refine ⟨by omega,?_⟩
   conv=>whnf
   rw [opF_load1 i rfl rfl rfl rfl (by rw [idx_nat,Nat.mul_one]) (ints_get hip)]
   conv=>whnf
   rw [hkp,decide_eq_false (show ¬ (0≤k) by omega)]
   conv=>whnf
   refine ⟨by kernel_rfl,?_⟩
   refine Run.of_wpK (hc w [] none (fun _ h=>by cases h)) 1000 _ ?_
   conv=>whnf
   exact Run.trim (T':=[(2,.ptr 8 0),(3,.ptr 9 0),(5,ii (((i+1:Nat):Nat):Int))]) (M':=[(9,.cells [.opq 6,ii x.n.inp,.opq 7] 25),(8,.cells [.opq 0,ii x.n.inp,.opq 1,.opq 2,.opq 3,.opq 4,.opq 5,ii K] 45),(0,.rwin 8 x.n.N.length (x.n.N.flatMap Prm.vals)),(1,.rwin 4 x.n.S.length (x.n.S.flatMap Syn.vals)),(2,.rwin 10 x.rs.length (x.rs.flatMap Rul.vals)),(3,.rwin 1 x.pl.length (ints x.pl)),(7,.rwin 4 x.n.S.length (L.flatMap Syn.vals))]) 10 ⟨⟨rfl,(show 8<10 by decide)⟩,⟨rfl,(show 9<10 by decide)⟩,⟨congrArg some (congrArg ii (wrap_succ (by omega))),trivial⟩,trivial⟩ ⟨⟨rfl,by omega,by simp [SObj.sc,SV.scs,SV.sc]⟩,⟨rfl,by omega,by simp [SObj.sc,SV.scs,SV.sc]⟩,⟨rfl,by omega,trivial⟩,⟨rfl,by omega,trivial⟩,⟨rfl,by omega,trivial⟩,⟨rfl,by omega,trivial⟩,⟨rfl,by omega,trivial⟩,trivial⟩ (fun p hp=>by cases hp) (ih trivial)
  have hge:=of_decide_eq_false hneg
  have hii:i∈plIdx x.pl:=plIdx_iff.2 ⟨hip,by omega⟩
  have hwb:=w_bounds hx h hii
  have hkr:k.toNat<x.rs.length:=by omega
  have hru:x.rul i=x.rs[k.toNat]:=by unfold Lnt.rul; rw [hpd]; simp [List.getD_eq_getElem?_getD,hkr]
  rw [hru] at hwb
  conv=>whnf
  refine Run.draw (hc w [] none (fun _ h=>by cases h)) 36 ?_
  rw [show upto 0 36=upto 0 4++(upto 4 1++(upto 5 2++(upto 7 1++(upto 8 7++(upto 15 1++(upto 16 1++(upto 17 2++(upto 19 2++(upto 21 1++(upto 22 7++(upto 29 1++(upto 30 1++(upto 31 2++upto 33 3))))))))))))) from rfl]
  simp only [drawK_app]
  conv=>whnf
  refine ⟨by omega,?_⟩
  conv=>whnf
  rw [opF_load1 i rfl rfl rfl rfl (by rw [idx_nat,Nat.mul_one]) (ints_get hip)]
  conv=>whnf
  rw [hkp,decide_eq_true (show 0≤k by omega)]
  conv=>whnf
  refine ⟨by omega,?_⟩
  conv=>whnf
  rw [opF_load1 i rfl rfl rfl rfl (by rw [idx_nat,Nat.mul_one]) (ints_get hip)]
  conv=>whnf
  rw [hkp]
  refine ⟨by omega,?_⟩
  conv=>whnf
  rw [opF_loadWf (f:=Rul.vals) (l:=x.rs) (c := .int .i64 x.rs[k.toNat].lo) k.toNat 7 rfl rfl rfl rfl Rul.vlen (by rw [idx_eq]) hkr (by decide) rfl]
  conv=>whnf
  rw [show decide (wAt s.m i<x.rs[k.toNat].lo)=false by rw [decide_eq_false_iff_not]; omega]
  conv=>whnf
  refine ⟨by omega,?_⟩
  conv=>whnf
  rw [opF_load1 i rfl rfl rfl rfl (by rw [idx_nat,Nat.mul_one]) (ints_get hip)]
  conv=>whnf
  rw [hkp]
  refine ⟨by omega,?_⟩
  conv=>whnf
  rw [opF_loadWf (f:=Rul.vals) (l:=x.rs) (c := .int .i64 x.rs[k.toNat].hi) k.toNat 8 rfl rfl rfl rfl Rul.vlen (by rw [idx_eq]) hkr (by decide) rfl]
  conv=>whnf
  refine ⟨by kernel_rfl,?_⟩
  refine Run.of_wpK (hc w [] none (fun _ h=>by cases h)) 1000 _ ?_
  conv=>whnf
  rw [show decide (x.rs[k.toNat].hi<wAt s.m i)=false by rw [decide_eq_false_iff_not]; omega]
  conv=>whnf
  exact Run.trim (T':=[(2,.ptr 8 0),(3,.ptr 9 0),(5,ii (((i+1:Nat):Nat):Int))]) (M':=[(9,.cells [.opq 6,ii x.n.inp,.opq 7] 25),(8,.cells [.opq 0,ii x.n.inp,.opq 1,.opq 2,.opq 3,.opq 4,.opq 5,ii K] 45),(0,.rwin 8 x.n.N.length (x.n.N.flatMap Prm.vals)),(1,.rwin 4 x.n.S.length (x.n.S.flatMap Syn.vals)),(2,.rwin 10 x.rs.length (x.rs.flatMap Rul.vals)),(3,.rwin 1 x.pl.length (ints x.pl)),(7,.rwin 4 x.n.S.length (L.flatMap Syn.vals))]) 10 ⟨⟨rfl,(show 8<10 by decide)⟩,⟨rfl,(show 9<10 by decide)⟩,⟨congrArg some (congrArg ii (wrap_succ (by omega))),trivial⟩,trivial⟩ ⟨⟨rfl,by omega,by simp [SObj.sc,SV.scs,SV.sc]⟩,⟨rfl,by omega,by simp [SObj.sc,SV.scs,SV.sc]⟩,⟨rfl,by omega,trivial⟩,⟨rfl,by omega,trivial⟩,⟨rfl,by omega,trivial⟩,⟨rfl,by omega,trivial⟩,⟨rfl,by omega,trivial⟩,trivial⟩ (fun p hp=>by cases hp) (ih (trivial))
 ·intro hJ
  refine Run.of_wpK (hc w [] none (fun _ h=>by cases h)) 1000 _ ?_
  conv=>whnf
  rw [decide_eq_false (show ¬ ((x.n.S.length:Nat):Int)<(x.n.S.length:Int) by omega)]
  conv=>whnf
  refine Run.trim (T':=[(2,.ptr 8 0),(3,.ptr 9 0),(8,ii (((0:Nat):Nat):Int))]) (M':=[(9,.cells [.opq 6,ii x.n.inp,.opq 7] 25),(8,.cells [.opq 0,ii x.n.inp,.opq 1,.opq 2,.opq 3,.opq 4,.opq 5,ii K] 45),(0,.rwin 8 x.n.N.length (x.n.N.flatMap Prm.vals)),(1,.rwin 4 x.n.S.length (x.n.S.flatMap Syn.vals)),(2,.rwin 10 x.rs.length (x.rs.flatMap Rul.vals)),(3,.rwin 1 x.pl.length (ints x.pl)),(7,.rwin 4 x.n.S.length (L.flatMap Syn.vals))]) 10 ⟨⟨rfl,(show 8<10 by decide)⟩,⟨rfl,(show 9<10 by decide)⟩,⟨rfl,trivial⟩,trivial⟩ ⟨⟨rfl,by omega,by simp [SObj.sc,SV.scs,SV.sc]⟩,⟨rfl,by omega,by simp [SObj.sc,SV.scs,SV.sc]⟩,⟨rfl,by omega,trivial⟩,⟨rfl,by omega,trivial⟩,⟨rfl,by omega,trivial⟩,⟨rfl,by omega,trivial⟩,⟨rfl,by omega,trivial⟩,trivial⟩ (fun p hp=>by cases hp) ?_
  refine Run.upToJ (T:=fun i=>[(2,.ptr 8 0),(3,.ptr 9 0),(8,ii ((i:Nat):Int))]) (M:=fun i=>[(9,.cells [.opq 6,ii x.n.inp,.opq 7] 25),(8,.cells [.opq 0,ii x.n.inp,.opq 1,.opq 2,.opq 3,.opq 4,.opq 5,ii K] 45),(0,.rwin 8 x.n.N.length (x.n.N.flatMap Prm.vals)),(1,.rwin 4 x.n.S.length (x.n.S.flatMap Syn.vals)),(2,.rwin 10 x.rs.length (x.rs.flatMap Rul.vals)),(3,.rwin 1 x.pl.length (ints x.pl)),(7,.rwin 4 x.n.S.length (L.flatMap Syn.vals))]) (fun _=>True) (x.rs.length) (trivial) ?_ ?_
  ·intro i hi hJ ih
   refine Run.of_wpK (hc w [] none (fun _ h=>by cases h)) 1000 _ ?_
   conv=>whnf
   rw [decide_eq_true (show ((i:Nat):Int)<(x.rs.length:Int) by omega)]
   conv=>whnf
   cases hsum:x.rs[i].sum
   case false =>
    by_cases hN0:x.n.N.length=0
    ·exact absurd hx.N1 (by omega)
    refine Run.of_wpK (hc w [] none (fun _ h=>by cases h)) 1000 _ ?_
    conv=>whnf
    rw [decide_eq_true (show (0:Int)<(x.n.N.length:Int) by omega)]
    conv=>whnf
    refine ⟨by omega,?_⟩
    conv=>whnf
    rw [opF_loadWf (f:=Rul.vals) (l:=x.rs) (c := .bool x.rs[i].sum) i 9 rfl rfl rfl rfl Rul.vlen (by rw [idx_nat]) hi (by decide) rfl,hsum]
    conv=>whnf
    exact Run.trim (T':=[(2,.ptr 8 0),(3,.ptr 9 0),(8,ii (((i+1:Nat):Nat):Int))]) (M':=[(9,.cells [.opq 6,ii x.n.inp,.opq 7] 25),(8,.cells [.opq 0,ii x.n.inp,.opq 1,.opq 2,.opq 3,.opq 4,.opq 5,ii K] 45),(0,.rwin 8 x.n.N.length (x.n.N.flatMap Prm.vals)),(1,.rwin 4 x.n.S.length (x.n.S.flatMap Syn.vals)),(2,.rwin 10 x.rs.length (x.rs.flatMap Rul.vals)),(3,.rwin 1 x.pl.length (ints x.pl)),(7,.rwin 4 x.n.S.length (L.flatMap Syn.vals))]) 10 ⟨⟨rfl,(show 8<10 by decide)⟩,⟨rfl,(show 9<10 by decide)⟩,⟨congrArg some (congrArg ii (wrap_succ (by omega))),trivial⟩,trivial⟩ ⟨⟨rfl,by omega,by simp [SObj.sc,SV.scs,SV.sc]⟩,⟨rfl,by omega,by simp [SObj.sc,SV.scs,SV.sc]⟩,⟨rfl,by omega,trivial⟩,⟨rfl,by omega,trivial⟩,⟨rfl,by omega,trivial⟩,⟨rfl,by omega,trivial⟩,⟨rfl,by omega,trivial⟩,trivial⟩ (fun p hp=>by cases hp) (ih trivial)
   refine Run.trim (T':=[(2,.ptr 8 0),(3,.ptr 9 0),(8,ii ((i:Nat):Int)),(9,ii ((0:Nat):Int))]) (M':=[(9,.cells [.opq 6,ii x.n.inp,.opq 7] 25),(8,.cells [.opq 0,ii x.n.inp,.opq 1,.opq 2,.opq 3,.opq 4,.opq 5,ii K] 45),(0,.rwin 8 x.n.N.length (x.n.N.flatMap Prm.vals)),(1,.rwin 4 x.n.S.length (x.n.S.flatMap Syn.vals)),(2,.rwin 10 x.rs.length (x.rs.flatMap Rul.vals)),(3,.rwin 1 x.pl.length (ints x.pl)),(7,.rwin 4 x.n.S.length (L.flatMap Syn.vals))]) 10 ⟨⟨rfl,(show 8<10 by decide)⟩,⟨rfl,(show 9<10 by decide)⟩,⟨rfl,trivial⟩,⟨rfl,trivial⟩,trivial⟩ ⟨⟨rfl,by omega,by simp [SObj.sc,SV.scs,SV.sc]⟩,⟨rfl,by omega,by simp [SObj.sc,SV.scs,SV.sc]⟩,⟨rfl,by omega,trivial⟩,⟨rfl,by omega,trivial⟩,⟨rfl,by omega,trivial⟩,⟨rfl,by omega,trivial⟩,⟨rfl,by omega,trivial⟩,trivial⟩ (fun p hp=>by cases hp) ?_
   refine Run.upToJ (T:=fun a=>[(2,.ptr 8 0),(3,.ptr 9 0),(8,ii ((i:Nat):Int)),(9,ii ((a:Nat):Int))]) (M:=fun _=>[(9,.cells [.opq 6,ii x.n.inp,.opq 7] 25),(8,.cells [.opq 0,ii x.n.inp,.opq 1,.opq 2,.opq 3,.opq 4,.opq 5,ii K] 45),(0,.rwin 8 x.n.N.length (x.n.N.flatMap Prm.vals)),(1,.rwin 4 x.n.S.length (x.n.S.flatMap Syn.vals)),(2,.rwin 10 x.rs.length (x.rs.flatMap Rul.vals)),(3,.rwin 1 x.pl.length (ints x.pl)),(7,.rwin 4 x.n.S.length (L.flatMap Syn.vals))]) (fun _=>True) x.n.N.length trivial ?_ ?_
   ·intro a ha _ ih3
    refine Run.of_wpK (hc w [] none (fun _ h=>by cases h)) 1000 _ ?_
    conv=>whnf
    rw [decide_eq_true (show ((a:Nat):Int)<(x.n.N.length:Int) by omega)]
    conv=>whnf
    refine ⟨by omega,?_⟩
    conv=>whnf
    rw [opF_loadWf (f:=Rul.vals) (l:=x.rs) (c := .bool x.rs[i].sum) i 9 rfl rfl rfl rfl Rul.vlen (by rw [idx_nat]) hi (by decide) rfl,hsum]
    conv=>whnf
    refine Run.trim (T':=[(2,.ptr 8 0),(3,.ptr 9 0),(8,ii ((i:Nat):Int)),(9,ii ((a:Nat):Int)),(10,ii (kSum x s.m ((i:Nat):Int) ((a:Nat):Int) 0)),(11,ii ((0:Nat):Int))]) (M':=[(9,.cells [.opq 6,ii x.n.inp,.opq 7] 25),(8,.cells [.opq 0,ii x.n.inp,.opq 1,.opq 2,.opq 3,.opq 4,.opq 5,ii K] 45),(0,.rwin 8 x.n.N.length (x.n.N.flatMap Prm.vals)),(1,.rwin 4 x.n.S.length (x.n.S.flatMap Syn.vals)),(2,.rwin 10 x.rs.length (x.rs.flatMap Rul.vals)),(3,.rwin 1 x.pl.length (ints x.pl)),(7,.rwin 4 x.n.S.length (L.flatMap Syn.vals))]) 10 ⟨⟨rfl,(show 8<10 by decide)⟩,⟨rfl,(show 9<10 by decide)⟩,⟨rfl,trivial⟩,⟨rfl,trivial⟩,⟨rfl,trivial⟩,⟨rfl,trivial⟩,trivial⟩ ⟨⟨rfl,by omega,by simp [SObj.sc,SV.scs,SV.sc]⟩,⟨rfl,by omega,by simp [SObj.sc,SV.scs,SV.sc]⟩,⟨rfl,by omega,trivial⟩,⟨rfl,by omega,trivial⟩,⟨rfl,by omega,trivial⟩,⟨rfl,by omega,trivial⟩,⟨rfl,by omega,trivial⟩,trivial⟩ (fun p hp=>by cases hp) ?_
    refine Run.upToJ (T:=fun b=>[(2,.ptr 8 0),(3,.ptr 9 0),(8,ii ((i:Nat):Int)),(9,ii ((a:Nat):Int)),(10,ii (kSum x s.m ((i:Nat):Int) ((a:Nat):Int) b)),(11,ii ((b:Nat):Int))]) (M:=fun _=>[(9,.cells [.opq 6,ii x.n.inp,.opq 7] 25),(8,.cells [.opq 0,ii x.n.inp,.opq 1,.opq 2,.opq 3,.opq 4,.opq 5,ii K] 45),(0,.rwin 8 x.n.N.length (x.n.N.flatMap Prm.vals)),(1,.rwin 4 x.n.S.length (x.n.S.flatMap Syn.vals)),(2,.rwin 10 x.rs.length (x.rs.flatMap Rul.vals)),(3,.rwin 1 x.pl.length (ints x.pl)),(7,.rwin 4 x.n.S.length (L.flatMap Syn.vals))]) (fun _=>True) x.n.S.length trivial ?_ ?_
    ·intro b hb _ ih4
     refine Run.of_wpK (hc w [] none (fun _ h=>by cases h)) 1000 _ ?_
     conv=>whnf
     rw [decide_eq_true (show ((b:Nat):Int)<(x.n.S.length:Int) by omega)]
     conv=>whnf
     have hbL:b<L.length:=by omega
     have hbp:b<x.pl.length:=by omega
     have hgb:=hLg b hb
     have hpd:x.pl.getD b (-1)=x.pl[b]:=by simp [List.getD_eq_getElem?_getD,hbp]
     have hgd:x.n.S.getD b syn0=x.n.S[b]:=by simp [List.getD_eq_getElem?_getD,hb]
     obtain ⟨y,hy⟩ : ∃ y,x.n.S[b]=y:=⟨_,rfl⟩
     rw [hy] at hgb hgd
     obtain ⟨k,hkp⟩ : ∃ k,x.pl[b]=k:=⟨_,rfl⟩
     rw [hkp] at hpd
     have hkb:=kSum_bound hx h ((i:Nat):Int) ((a:Nat):Int) (by omega) b
     have hkt:=kTerm_bound hx h ((i:Nat):Int) ((a:Nat):Int) (by omega) b
     have hks:kSum x s.m ((i:Nat):Int) ((a:Nat):Int) (b+1)=kSum x s.m ((i:Nat):Int) ((a:Nat):Int) b+kTerm x s.m ((i:Nat):Int) ((a:Nat):Int) b:=rfl
     have hkd:kTerm x s.m ((i:Nat):Int) ((a:Nat):Int) b=if k=((i:Nat):Int)∧y.to=((a:Nat):Int) then wAt s.m b-y.w else 0:=by unfold kTerm; rw [hpd,hgd]
     refine ⟨by omega,?_⟩
     conv=>whnf
     rw [opF_load1 b rfl rfl rfl rfl (by rw [idx_nat,Nat.mul_one]) (ints_get hbp)]
     conv=>whnf
     rw [hkp]
     cases e1:(k==((i:Nat):Int))
     case false =>
      have hk0:kSum x s.m ((i:Nat):Int) ((a:Nat):Int) (b+1)=kSum x s.m ((i:Nat):Int) ((a:Nat):Int) b:=by
       rw [hks,hkd,if_neg (fun hh=>by rw [hh.1] at e1; simp at e1)]; omega
      conv=>whnf
      rw [← hk0]
      exact Run.trim (T':=[(2,.ptr 8 0),(3,.ptr 9 0),(8,ii ((i:Nat):Int)),(9,ii ((a:Nat):Int)),(10,ii (kSum x s.m ((i:Nat):Int) ((a:Nat):Int) (b+1))),(11,ii (((b+1):Nat):Int))]) (M':=[(9,.cells [.opq 6,ii x.n.inp,.opq 7] 25),(8,.cells [.opq 0,ii x.n.inp,.opq 1,.opq 2,.opq 3,.opq 4,.opq 5,ii K] 45),(0,.rwin 8 x.n.N.length (x.n.N.flatMap Prm.vals)),(1,.rwin 4 x.n.S.length (x.n.S.flatMap Syn.vals)),(2,.rwin 10 x.rs.length (x.rs.flatMap Rul.vals)),(3,.rwin 1 x.pl.length (ints x.pl)),(7,.rwin 4 x.n.S.length (L.flatMap Syn.vals))]) 10 ⟨⟨rfl,(show 8<10 by decide)⟩,⟨rfl,(show 9<10 by decide)⟩,⟨rfl,trivial⟩,⟨rfl,trivial⟩,⟨rfl,trivial⟩,⟨congrArg some (congrArg ii (wrap_succ (by omega))),trivial⟩,trivial⟩ ⟨⟨rfl,by omega,by simp [SObj.sc,SV.scs,SV.sc]⟩,⟨rfl,by omega,by simp [SObj.sc,SV.scs,SV.sc]⟩,⟨rfl,by omega,trivial⟩,⟨rfl,by omega,trivial⟩,⟨rfl,by omega,trivial⟩,⟨rfl,by omega,trivial⟩,⟨rfl,by omega,trivial⟩,trivial⟩ (fun p hp=>by cases hp) (ih4 trivial)
     conv=>whnf
     refine ⟨by omega,?_⟩
     conv=>whnf
     rw [opF_loadWf (f:=Syn.vals) (l:=L) (c := .int .i64 L[b].to) b 1 rfl rfl rfl rfl Syn.vlen (by rw [idx_nat]) hbL (by decide) rfl,hgb]
     conv=>whnf
     cases e2:(y.to==((a:Nat):Int))
     case false =>
      have hk0:kSum x s.m ((i:Nat):Int) ((a:Nat):Int) (b+1)=kSum x s.m ((i:Nat):Int) ((a:Nat):Int) b:=by
       rw [hks,hkd,if_neg (fun hh=>by rw [hh.2] at e2; simp at e2)]; omega
      conv=>whnf
      rw [← hk0]
      exact Run.trim (T':=[(2,.ptr 8 0),(3,.ptr 9 0),(8,ii ((i:Nat):Int)),(9,ii ((a:Nat):Int)),(10,ii (kSum x s.m ((i:Nat):Int) ((a:Nat):Int) (b+1))),(11,ii (((b+1):Nat):Int))]) (M':=[(9,.cells [.opq 6,ii x.n.inp,.opq 7] 25),(8,.cells [.opq 0,ii x.n.inp,.opq 1,.opq 2,.opq 3,.opq 4,.opq 5,ii K] 45),(0,.rwin 8 x.n.N.length (x.n.N.flatMap Prm.vals)),(1,.rwin 4 x.n.S.length (x.n.S.flatMap Syn.vals)),(2,.rwin 10 x.rs.length (x.rs.flatMap Rul.vals)),(3,.rwin 1 x.pl.length (ints x.pl)),(7,.rwin 4 x.n.S.length (L.flatMap Syn.vals))]) 10 ⟨⟨rfl,(show 8<10 by decide)⟩,⟨rfl,(show 9<10 by decide)⟩,⟨rfl,trivial⟩,⟨rfl,trivial⟩,⟨rfl,trivial⟩,⟨congrArg some (congrArg ii (wrap_succ (by omega))),trivial⟩,trivial⟩ ⟨⟨rfl,by omega,by simp [SObj.sc,SV.scs,SV.sc]⟩,⟨rfl,by omega,by simp [SObj.sc,SV.scs,SV.sc]⟩,⟨rfl,by omega,trivial⟩,⟨rfl,by omega,trivial⟩,⟨rfl,by omega,trivial⟩,⟨rfl,by omega,trivial⟩,⟨rfl,by omega,trivial⟩,trivial⟩ (fun p hp=>by cases hp) (ih4 trivial)
     have hk1:kTerm x s.m ((i:Nat):Int) ((a:Nat):Int) b=wAt s.m b-y.w:=by rw [hkd,if_pos ⟨by simpa using e1,by simpa using e2⟩]
     have hk2:IntKind.i64.wrap (kSum x s.m ((i:Nat):Int) ((a:Nat):Int) b+IntKind.i64.wrap (wAt s.m b-y.w))=kSum x s.m ((i:Nat):Int) ((a:Nat):Int) (b+1):=by
      have q1:IntKind.i64.wrap (wAt s.m b-y.w)=wAt s.m b-y.w:=W_id (by omega) (by omega)
      rw [q1,hks,hk1]
      exact W_id (by omega) (by omega)
     conv=>whnf
     refine Run.draw (hc w [] none (fun _ h=>by cases h)) 16 ?_
     rw [show upto 0 16=upto 0 6++(upto 6 1++(upto 7 6++(upto 13 1++upto 14 2))) from rfl]
     simp only [drawK_app]
     conv=>whnf
     refine ⟨by omega,?_⟩
     conv=>whnf
     rw [opF_loadWf (f:=Syn.vals) (l:=L) (c := .int .i64 L[b].w) b 2 rfl rfl rfl rfl Syn.vlen (by rw [idx_nat]) hbL (by decide) rfl,hgb]
     conv=>whnf
     refine ⟨by omega,?_⟩
     conv=>whnf
     rw [opF_loadWf (f:=Syn.vals) (l:=x.n.S) (c := .int .i64 x.n.S[b].w) b 2 rfl rfl rfl rfl Syn.vlen (by rw [idx_nat]) hb (by decide) rfl,hy]
     conv=>whnf
     refine ⟨by kernel_rfl,?_⟩
     refine Run.of_wpK (hc w [] none (fun _ h=>by cases h)) 1000 _ ?_
     conv=>whnf
     rw [hk2]
     exact Run.trim (T':=[(2,.ptr 8 0),(3,.ptr 9 0),(8,ii ((i:Nat):Int)),(9,ii ((a:Nat):Int)),(10,ii (kSum x s.m ((i:Nat):Int) ((a:Nat):Int) (b+1))),(11,ii (((b+1):Nat):Int))]) (M':=[(9,.cells [.opq 6,ii x.n.inp,.opq 7] 25),(8,.cells [.opq 0,ii x.n.inp,.opq 1,.opq 2,.opq 3,.opq 4,.opq 5,ii K] 45),(0,.rwin 8 x.n.N.length (x.n.N.flatMap Prm.vals)),(1,.rwin 4 x.n.S.length (x.n.S.flatMap Syn.vals)),(2,.rwin 10 x.rs.length (x.rs.flatMap Rul.vals)),(3,.rwin 1 x.pl.length (ints x.pl)),(7,.rwin 4 x.n.S.length (L.flatMap Syn.vals))]) 10 ⟨⟨rfl,(show 8<10 by decide)⟩,⟨rfl,(show 9<10 by decide)⟩,⟨rfl,trivial⟩,⟨rfl,trivial⟩,⟨rfl,trivial⟩,⟨congrArg some (congrArg ii (wrap_succ (by omega))),trivial⟩,trivial⟩ ⟨⟨rfl,by omega,by simp [SObj.sc,SV.scs,SV.sc]⟩,⟨rfl,by omega,by simp [SObj.sc,SV.scs,SV.sc]⟩,⟨rfl,by omega,trivial⟩,⟨rfl,by omega,trivial⟩,⟨rfl,by omega,trivial⟩,⟨rfl,by omega,trivial⟩,⟨rfl,by omega,trivial⟩,trivial⟩ (fun p hp=>by cases hp) (ih4 trivial)
    ·intro _
     refine Run.of_wpK (hc w [] none (fun _ h=>by cases h)) 1000 _ ?_
     conv=>whnf
     rw [decide_eq_false (show ¬ ((x.n.S.length:Nat):Int)<(x.n.S.length:Int) by omega)]
     conv=>whnf
     have hz:=kSum_zero hk ((i:Nat):Int) ((a:Nat):Int) (by omega) (by rw [List.getD_eq_getElem?_getD]; simp [hi,hsum])
     rw [hx4] at hz
     rw [hz]
     conv=>whnf
     exact Run.trim (T':=[(2,.ptr 8 0),(3,.ptr 9 0),(8,ii ((i:Nat):Int)),(9,ii ((a+1:Nat):Int))]) (M':=[(9,.cells [.opq 6,ii x.n.inp,.opq 7] 25),(8,.cells [.opq 0,ii x.n.inp,.opq 1,.opq 2,.opq 3,.opq 4,.opq 5,ii K] 45),(0,.rwin 8 x.n.N.length (x.n.N.flatMap Prm.vals)),(1,.rwin 4 x.n.S.length (x.n.S.flatMap Syn.vals)),(2,.rwin 10 x.rs.length (x.rs.flatMap Rul.vals)),(3,.rwin 1 x.pl.length (ints x.pl)),(7,.rwin 4 x.n.S.length (L.flatMap Syn.vals))]) 10 ⟨⟨rfl,(show 8<10 by decide)⟩,⟨rfl,(show 9<10 by decide)⟩,⟨rfl,trivial⟩,⟨congrArg some (congrArg ii (wrap_succ (by omega))),trivial⟩,trivial⟩ ⟨⟨rfl,by omega,by simp [SObj.sc,SV.scs,SV.sc]⟩,⟨rfl,by omega,by simp [SObj.sc,SV.scs,SV.sc]⟩,⟨rfl,by omega,trivial⟩,⟨rfl,by omega,trivial⟩,⟨rfl,by omega,trivial⟩,⟨rfl,by omega,trivial⟩,⟨rfl,by omega,trivial⟩,trivial⟩ (fun p hp=>by cases hp) (ih3 trivial)
   ·intro _
    refine Run.of_wpK (hc w [] none (fun _ h=>by cases h)) 1000 _ ?_
    conv=>whnf
    rw [decide_eq_false (show ¬ ((x.n.N.length:Nat):Int)<(x.n.N.length:Int) by omega)]
    conv=>whnf
    exact Run.trim (T':=[(2,.ptr 8 0),(3,.ptr 9 0),(8,ii (((i+1:Nat):Nat):Int))]) (M':=[(9,.cells [.opq 6,ii x.n.inp,.opq 7] 25),(8,.cells [.opq 0,ii x.n.inp,.opq 1,.opq 2,.opq 3,.opq 4,.opq 5,ii K] 45),(0,.rwin 8 x.n.N.length (x.n.N.flatMap Prm.vals)),(1,.rwin 4 x.n.S.length (x.n.S.flatMap Syn.vals)),(2,.rwin 10 x.rs.length (x.rs.flatMap Rul.vals)),(3,.rwin 1 x.pl.length (ints x.pl)),(7,.rwin 4 x.n.S.length (L.flatMap Syn.vals))]) 10 ⟨⟨rfl,(show 8<10 by decide)⟩,⟨rfl,(show 9<10 by decide)⟩,⟨congrArg some (congrArg ii (wrap_succ (by omega))),trivial⟩,trivial⟩ ⟨⟨rfl,by omega,by simp [SObj.sc,SV.scs,SV.sc]⟩,⟨rfl,by omega,by simp [SObj.sc,SV.scs,SV.sc]⟩,⟨rfl,by omega,trivial⟩,⟨rfl,by omega,trivial⟩,⟨rfl,by omega,trivial⟩,⟨rfl,by omega,trivial⟩,⟨rfl,by omega,trivial⟩,trivial⟩ (fun p hp=>by cases hp) (ih trivial)
  ·intro hJ
   refine Run.of_wpK (hc w [] none (fun _ h=>by cases h)) 1000 _ ?_
   conv=>whnf
   rw [decide_eq_false (show ¬ ((x.rs.length:Nat):Int)<(x.rs.length:Int) by omega)]
   conv=>whnf
   exact ⟨fun ρ w' hW _=>⟨rfl,hW.toExt⟩⟩
end Go.Proofs.Ytnnlpdgnlccbjaa
namespace Go.Proofs.Ytnnlpdgnlccbjaa
open Go.Sx
set_option maxRecDepth 100000
set_option maxHeartbeats 16000000
theorem trS_kept {x:Lnt} (hx:NetOK x) (l:List Evt) (p:List Prz) : ∀ i,i≤10000→Kept x (trS x l p i)
 | 0,_=>Kept.start x
 | i+1,h=>Kept.next hx (trS_inv hx l p i (by omega)) _ _
theorem learnKeeps_walk (w:World) (vN vS:Value) (n:Net) (hn:IsNet w vN vS n) (vR:Value) (rs:List Rul) (hr:RowsAt w vR 10 rs.length (rs.flatMap Rul.vals)) (vP:Value) (pl:List Int) (hpl:RowsAt w vP 1 pl.length (ints pl)) (vE:Value) (l:List Evt) (hE:RowsAt w vE 2 l.length (l.flatMap Evt.vals)) (vZ:Value) (p:List Prz) (hZ:RowsAt w vZ 3 p.length (p.flatMap Prz.vals)) (K:Int) (_:rs.length*80≤140737488355328) :
  Calls Try.prog 8 #[caseV vN vS vR vP vE vZ n K] w fun e w'=>e = .returned (.bool true)∧Ext w w':=by
 have hpf:PF.oks Try.prog [(2000,fun _ _=>none)]:=⟨trivial,trivial⟩
 have hc : ∀ w L' rd,(∀ p,rd=some p→p∈L')→Cx.ok ⟨Try.prog,tab,[(2000,fun _ _=>none)],8,Try.f8,[],w,L',rd⟩:=fun w L' rd h=>⟨tab_ok,hpf,Try.func8,mixed,h⟩
 have hn0:=hn
 obtain ⟨hn1,hn2⟩:=hn
 have hrows:AllP (fun x:Value × Nat × Nat × List Value=>RowsAt w x.1 x.2.1 x.2.2.1 x.2.2.2) [(vN,8,n.N.length,n.N.flatMap Prm.vals),(vS,4,n.S.length,n.S.flatMap Syn.vals),(vR,10,rs.length,rs.flatMap Rul.vals),(vP,1,pl.length,ints pl),(vE,2,l.length,l.flatMap Evt.vals),(vZ,3,p.length,p.flatMap Prz.vals)]:=⟨hn1,hn2,hr,hpl,hE,hZ,trivial⟩
 refine Run.startW (tab:=tab) (pf:=[(2000,fun _ _=>none)]) (cuts:=[]) Try.func8 rfl _ hrows [.agg [.opq 0,ii n.inp,.opq 1,.opq 2,.opq 3,.opq 4,.opq 5,ii K]] [caseV vN vS vR vP vE vZ n K] [(0,.rwin 8 n.N.length (n.N.flatMap Prm.vals)),(1,.rwin 4 n.S.length (n.S.flatMap Syn.vals)),(2,.rwin 10 rs.length (rs.flatMap Rul.vals)),(3,.rwin 1 pl.length (ints pl)),(4,.rwin 2 l.length (l.flatMap Evt.vals)),(5,.rwin 3 p.length (p.flatMap Prz.vals))] 6 rfl rfl (by show [Value.agg [(SV.opq 0).conc _,.int .i64 n.inp,(SV.opq 1).conc _,(SV.opq 2).conc _,(SV.opq 3).conc _,(SV.opq 4).conc _,(SV.opq 5).conc _,.int .i64 K].toArray]=_; rw [conc_rows hrows (k:=0) rfl,conc_rows hrows (k:=1) rfl,conc_rows hrows (k:=2) rfl,conc_rows hrows (k:=3) rfl,conc_rows hrows (k:=4) rfl,conc_rows hrows (k:=5) rfl]; rfl) (by simp [SV.scs,SV.sc]) rfl (Run.of_wpK (hc w [] none (fun _ h=>by cases h)) 100 _ ?_)
 conv=>whnf
 refine Run.callE (g:=23) (vs:=[.agg [.opq 0,ii n.inp,.opq 1,.opq 2,.opq 3,.opq 4,.opq 5,ii K]]) (caps:=[]) (.v (.bool (smallB n rs pl l p K))) (fun ρ w1 hW=>small_run _ _ n _ rs _ pl _ l _ p K w1 ⟨hW.rowsAt (i:=0) rfl,hW.rowsAt (i:=1) rfl⟩ (hW.rowsAt (i:=2) rfl) (hW.rowsAt (i:=3) rfl) (hW.rowsAt (i:=4) rfl) (hW.rowsAt (i:=5) rfl)) (ent _ _ Try.func23 (by kernel_rfl) rfl) rfl rfl rfl rfl rfl rfl rfl trivial ?_
 cases hsm:smallB n rs pl l p K
 case false =>
  refine Run.of_wpK (hc w [] none (fun _ h=>by cases h)) 1000 _ ?_
  conv=>whnf
  refine Run.callE (g:=14) (vs:=[]) (caps:=[]) (.v (.bool true)) (fun ρ w1 hW=>works_run w1) (ent _ _ Try.func14 (by kernel_rfl) rfl) rfl rfl rfl rfl rfl rfl rfl trivial ?_
  refine Run.of_wpK (hc w [] none (fun _ h=>by cases h)) 1000 _ ?_
  conv=>whnf
  exact ⟨fun ρ w' hW _=>⟨rfl,hW.toExt⟩⟩
 have hok:=small_ok hsm
 obtain ⟨x,rfl,rfl,rfl⟩ : ∃ x:Lnt,x.n=n∧x.rs=rs∧x.pl=pl:=⟨⟨n,rs,pl⟩,rfl,rfl,rfl⟩
 obtain ⟨KN,rfl⟩:=Int.eq_ofNat_of_zero_le hok.K0
 have hK1:=hok.K1
 have hK2:KN≤200:=by omega
 have hx:NetOK x:=netOK_of hok.chk
 have hx1:=hx.N2
 have hxN:=hx.N1
 have hx2:=hx.S1
 have hx3:=hx.rl
 have hx4:x.pl.length=x.n.S.length:=hx.lpl
 have hev:=evs_ok (prep_evs hok.prep) ⟨hx.inp0,hx.inp1⟩
 have hpz:=pzs_ok hok.pzs hx3
 have hel:=hok.ev
 have hpl2:=hok.pz
 have hNN:=hok.N
 have hKN:KN*x.n.N.length≤65536:=Nat.le_trans (Nat.mul_le_mul hK2 hNN) (by decide)
 have hIn : ∀ i:Nat,trIn l i=atIn l i:=fun i=>trIn_eq hev.le hev.t0 i
 have hRw : ∀ i:Nat,trRw x.rs.length p i=atRw x.rs.length p i:=fun i=>trRw_eq hpz.le hpz.t0 hpz.id i
 refine Run.of_wpK (hc w [] none (fun _ h=>by cases h)) 1000 _ ?_
 conv=>whnf
 refine Run.callP (vs:=[.agg [.opq 0,ii x.n.inp,.opq 1],.opq 2,.opq 3,.opq 4,.opq 5,ii (KN:Int)]) (caps:=[]) (train_ok x l p KN hok.chk hok.prep hok.pzs hKN) (ent _ _ Try.func20 (by kernel_rfl) rfl) rfl rfl rfl rfl rfl rfl rfl (by decide) (by decide)
  ⟨⟨by omega,trivial,⟨_,rfl,Conv.refl _⟩,.inl rfl,fun _=>by simp⟩,⟨by omega,trivial,⟨_,rfl,Conv.refl _⟩,.inl rfl,fun _=>by simp⟩,⟨by omega,trivial,⟨_,rfl,Conv.refl _⟩,.inl rfl,fun _=>by simp⟩,⟨by omega,trivial,⟨_,rfl,Conv.refl _⟩,.inl rfl,fun _=>by simp⟩,⟨by omega,trivial,⟨_,rfl,Conv.refl _⟩,.inl rfl,fun _=>by simp⟩,⟨by omega,trivial,⟨_,rfl,Conv.refl _⟩,.inl rfl,fun _=>by simp⟩,trivial⟩ (fun i hi=>by cases hi) (.tup [.opq 7,.agg [.opq 8,ii x.n.inp,.opq 9],ii 0]) [(7,.row 2 (trO x l p KN).length ((trO x l p KN).flatMap Evt.cells) 62),(8,.row 8 x.n.N.length ((x.n.N.flatMap Prm.vals).map .v) 60),(9,.row 4 x.n.S.length ((nowL x.n.S (trS x l p KN).m).flatMap Syn.cells) 55),(6,.cells [.opq 0,ii x.n.inp,.opq 1,.opq 2,.opq 3,.opq 4,.opq 5,ii (KN:Int)] 45),(0,.rwin 8 x.n.N.length (x.n.N.flatMap Prm.vals)),(1,.rwin 4 x.n.S.length (x.n.S.flatMap Syn.vals)),(2,.rwin 10 x.rs.length (x.rs.flatMap Rul.vals)),(3,.rwin 1 x.pl.length (ints x.pl)),(4,.rwin 2 l.length (l.flatMap Evt.vals)),(5,.rwin 3 p.length (p.flatMap Prz.vals))] 10 rfl rfl
  ⟨.inr ⟨6,_,rfl,rfl,(oren_fix (S:=fun _=>False) (fun i hi=>hi.elim) (o := .row 2 (trO x l p KN).length ((trO x l p KN).flatMap Evt.cells) 62) (scs_evts _ _)).symm,rfl⟩,.inr ⟨7,_,rfl,rfl,(oren_fix (S:=fun _=>False) (fun i hi=>hi.elim) (o := .row 8 x.n.N.length ((x.n.N.flatMap Prm.vals).map .v) 60) (scs_v _ _)).symm,rfl⟩,.inr ⟨8,_,rfl,rfl,(oren_fix (S:=fun _=>False) (fun i hi=>hi.elim) (o := .row 4 x.n.S.length ((nowL x.n.S (trS x l p KN).m).flatMap Syn.cells) 55) (scs_syns _ _)).symm,rfl⟩,.inl ⟨rfl,by simp⟩,.inl ⟨rfl,by simp⟩,.inl ⟨rfl,by simp⟩,.inl ⟨rfl,by simp⟩,.inl ⟨rfl,by simp⟩,.inl ⟨rfl,by simp⟩,.inl ⟨rfl,by simp⟩,trivial⟩ ?_
 refine Run.of_wpK (hc w [] none (fun _ h=>by cases h)) 1000 _ ?_
 conv=>whnf
 refine Run.callR (vs:=[.agg [.opq 0,ii x.n.inp,.opq 1],.opq 2,.opq 3]) (caps:=[]) (caps2:=[]) (new_ok x hok.chk) (ent _ _ Try.func25 (by kernel_rfl) rfl) rfl rfl rfl rfl rfl rfl [.agg [.opq 0,ii x.n.inp,.opq 1],.opq 2,.opq 3] rfl (id) rfl (fun q hq=>by have inv : ∀ q,q<4→id q<11:=(by decide); exact inv q hq) (fun q hq j hj hne=>by have inj : ∀ i,i<4 → ∀ j,j<4→i≠j→id i≠id j:=(by decide); exact inj q hq j hj hne) (by decide)
  ⟨⟨by omega,trivial,⟨_,rfl,Conv.refl _⟩,.inl rfl,fun _=>by simp⟩,⟨by omega,trivial,⟨_,rfl,Conv.refl _⟩,.inl rfl,fun _=>by simp⟩,⟨by omega,trivial,⟨_,rfl,Conv.refl _⟩,.inl rfl,fun _=>by simp⟩,⟨by omega,trivial,⟨_,rfl,Conv.refl _⟩,.inl rfl,fun _=>by simp⟩,trivial⟩ (fun i hi=>by cases hi) (.tup [.ptr 11 0,ii 0]) ((11,.cells [ii 0,.opq 12,ii x.n.inp,.opq 13,.opq 14,.mp 19,.mp 20,.mp 21,.mp 22,.mp 23,.mp 24,.mp 25,.mp 26,.mp 27,.mp 28,.mp 29,.mp 30,.mp 31,.mp 32,.mp 33,.mp 34,.opq 15,.opq 16,.opq 17,.mp 18] 96)::(12,.row 8 x.n.N.length ((x.n.N.flatMap Prm.vals).map .v) 60)::(13,.row 4 x.n.S.length ((x.n.S.flatMap Syn.vals).map .v) 55)::(14,.row 2 x.n.N.length ((List.replicate x.n.N.length ste0).flatMap Ste.cells) 139)::(15,.row 10 x.rs.length ((x.rs.flatMap Rul.vals).map .v) 36)::(16,.row 1 x.pl.length ((ints x.pl).map .v) 3)::(17,.row 4 x.pl.length (x.m0.flatMap Mrk.cells) 84)::(18,.kmap true true x.tot)::(19,.kmap false false [])::(20,.kmap false false [])::(21,.kmap false false [])::(22,.kmap false false [])::(23,.kmap false false [])::(24,.kmap false false [])::(25,.kmap false false [])::(26,.kmap false false [])::(27,.kmap false false [])::(28,.kmap false false [])::(29,.kmap false false [])::(30,.kmap false false [])::(31,.kmap false false [])::(32,.kmap false false [])::(33,.kmap false false [])::(34,.kmap false false [])::(10,.cells [.opq 8,ii x.n.inp,.opq 9] 25)::(7,.row 2 (trO x l p KN).length ((trO x l p KN).flatMap Evt.cells) 62)::(8,.row 8 x.n.N.length ((x.n.N.flatMap Prm.vals).map .v) 60)::(9,.row 4 x.n.S.length ((nowL x.n.S (trS x l p KN).m).flatMap Syn.cells) 55)::(6,.cells [.opq 0,ii x.n.inp,.opq 1,.opq 2,.opq 3,.opq 4,.opq 5,ii (KN:Int)] 45)::(0,.rwin 8 x.n.N.length (x.n.N.flatMap Prm.vals))::(1,.rwin 4 x.n.S.length (x.n.S.flatMap Syn.vals))::(2,.rwin 10 x.rs.length (x.rs.flatMap Rul.vals))::(3,.rwin 1 x.pl.length (ints x.pl))::(4,.rwin 2 l.length (l.flatMap Evt.vals))::(5,.rwin 3 p.length (p.flatMap Prz.vals))::[]) 35 rfl rfl
  ⟨.inr ⟨4,_,rfl,rfl,rfl,rfl⟩,.inr ⟨5,_,rfl,rfl,by rw [oren_fix (S:=fun _=>False) (fun i hi=>hi.elim) (o := .row 8 x.n.N.length ((x.n.N.flatMap Prm.vals).map .v) 60) (scs_v _ _)],rfl⟩,.inr ⟨6,_,rfl,rfl,by rw [oren_fix (S:=fun _=>False) (fun i hi=>hi.elim) (o := .row 4 x.n.S.length ((x.n.S.flatMap Syn.vals).map .v) 55) (scs_v _ _)],rfl⟩,.inr ⟨7,_,rfl,rfl,by rw [oren_fix (S:=fun _=>False) (fun i hi=>hi.elim) (o := .row 2 x.n.N.length ((List.replicate x.n.N.length ste0).flatMap Ste.cells) 139) (scs_st _ _)],rfl⟩,.inr ⟨8,_,rfl,rfl,by rw [oren_fix (S:=fun _=>False) (fun i hi=>hi.elim) (o := .row 10 x.rs.length ((x.rs.flatMap Rul.vals).map .v) 36) (scs_v _ _)],rfl⟩,.inr ⟨9,_,rfl,rfl,by rw [oren_fix (S:=fun _=>False) (fun i hi=>hi.elim) (o := .row 1 x.pl.length ((ints x.pl).map .v) 3) (scs_v _ _)],rfl⟩,.inr ⟨10,_,rfl,rfl,by rw [oren_fix (S:=fun _=>False) (fun i hi=>hi.elim) (o := .row 4 x.n.S.length (x.m0.flatMap Mrk.cells) 84) (scs_marks _ _),← hx4],rfl⟩,.inr ⟨11,_,rfl,rfl,rfl,rfl⟩,.inr ⟨12,_,rfl,rfl,rfl,rfl⟩,.inr ⟨13,_,rfl,rfl,rfl,rfl⟩,.inr ⟨14,_,rfl,rfl,rfl,rfl⟩,.inr ⟨15,_,rfl,rfl,rfl,rfl⟩,.inr ⟨16,_,rfl,rfl,rfl,rfl⟩,.inr ⟨17,_,rfl,rfl,rfl,rfl⟩,.inr ⟨18,_,rfl,rfl,rfl,rfl⟩,.inr ⟨19,_,rfl,rfl,rfl,rfl⟩,.inr ⟨20,_,rfl,rfl,rfl,rfl⟩,.inr ⟨21,_,rfl,rfl,rfl,rfl⟩,.inr ⟨22,_,rfl,rfl,rfl,rfl⟩,.inr ⟨23,_,rfl,rfl,rfl,rfl⟩,.inr ⟨24,_,rfl,rfl,rfl,rfl⟩,.inr ⟨25,_,rfl,rfl,rfl,rfl⟩,.inr ⟨26,_,rfl,rfl,rfl,rfl⟩,.inr ⟨27,_,rfl,rfl,rfl,rfl⟩,.inl ⟨rfl,by simp⟩,.inl ⟨rfl,by simp⟩,.inl ⟨rfl,by simp⟩,.inl ⟨rfl,by simp⟩,.inl ⟨rfl,by simp⟩,.inl ⟨rfl,by simp⟩,.inl ⟨rfl,by simp⟩,.inl ⟨rfl,by simp⟩,.inl ⟨rfl,by simp⟩,.inl ⟨rfl,by simp⟩,.inl ⟨rfl,by simp⟩,trivial⟩ ?_
 refine Run.of_wpK (hc w [] none (fun _ h=>by cases h)) 1000 _ ?_
 conv=>whnf
 refine Run.nils (T':=[(1,.ptr 6 0),(3,.opq 7),(4,.ptr 10 0),(6,.ptr 11 0),(8,.opq 35),(9,ii 0)]) (M':=((35,.row 2 0 [] 62)::(11,.cells [ii 0,.opq 12,ii x.n.inp,.opq 13,.opq 14,.mp 19,.mp 20,.mp 21,.mp 22,.mp 23,.mp 24,.mp 25,.mp 26,.mp 27,.mp 28,.mp 29,.mp 30,.mp 31,.mp 32,.mp 33,.mp 34,.opq 15,.opq 16,.opq 17,.mp 18] 96)::(12,.row 8 x.n.N.length ((x.n.N.flatMap Prm.vals).map .v) 60)::(13,.row 4 x.n.S.length ((x.n.S.flatMap Syn.vals).map .v) 55)::(14,.row 2 x.n.N.length ((List.replicate x.n.N.length ste0).flatMap Ste.cells) 139)::(15,.row 10 x.rs.length ((x.rs.flatMap Rul.vals).map .v) 36)::(16,.row 1 x.pl.length ((ints x.pl).map .v) 3)::(17,.row 4 x.pl.length (x.m0.flatMap Mrk.cells) 84)::(18,.kmap true true x.tot)::(19,.kmap false false [])::(20,.kmap false false [])::(21,.kmap false false [])::(22,.kmap false false [])::(23,.kmap false false [])::(24,.kmap false false [])::(25,.kmap false false [])::(26,.kmap false false [])::(27,.kmap false false [])::(28,.kmap false false [])::(29,.kmap false false [])::(30,.kmap false false [])::(31,.kmap false false [])::(32,.kmap false false [])::(33,.kmap false false [])::(34,.kmap false false [])::(7,.row 2 (trO x l p KN).length ((trO x l p KN).flatMap Evt.cells) 62)::(8,.row 8 x.n.N.length ((x.n.N.flatMap Prm.vals).map .v) 60)::(9,.row 4 x.n.S.length ((nowL x.n.S (trS x l p KN).m).flatMap Syn.cells) 55)::(10,.cells [.opq 8,ii x.n.inp,.opq 9] 25)::(6,.cells [.opq 0,ii x.n.inp,.opq 1,.opq 2,.opq 3,.opq 4,.opq 5,ii (KN:Int)] 45)::(0,.rwin 8 x.n.N.length (x.n.N.flatMap Prm.vals))::(1,.rwin 4 x.n.S.length (x.n.S.flatMap Syn.vals))::(2,.rwin 10 x.rs.length (x.rs.flatMap Rul.vals))::(3,.rwin 1 x.pl.length (ints x.pl))::(4,.rwin 2 l.length (l.flatMap Evt.vals))::(5,.rwin 3 p.length (p.flatMap Prz.vals))::[])) 1 (fun _ => .row 2 0 [] 62) (fun _ _ => .inl ⟨_,_,rfl⟩) ⟨⟨_,rfl,.inl rfl⟩,⟨_,rfl,.inl rfl⟩,⟨_,rfl,.inl rfl⟩,⟨_,rfl,.inl rfl⟩,⟨_,rfl,.inr (.inl ⟨rfl,0,by decide,rfl⟩)⟩,⟨_,rfl,.inl rfl⟩,trivial⟩ ⟨.inl ⟨0,by decide,rfl⟩,.inr ⟨_,rfl,.inl rfl⟩,.inr ⟨_,rfl,.inl rfl⟩,.inr ⟨_,rfl,.inl rfl⟩,.inr ⟨_,rfl,.inl rfl⟩,.inr ⟨_,rfl,.inl rfl⟩,.inr ⟨_,rfl,.inl rfl⟩,.inr ⟨_,rfl,.inl rfl⟩,.inr ⟨_,rfl,.inl rfl⟩,.inr ⟨_,rfl,.inl rfl⟩,.inr ⟨_,rfl,.inl rfl⟩,.inr ⟨_,rfl,.inl rfl⟩,.inr ⟨_,rfl,.inl rfl⟩,.inr ⟨_,rfl,.inl rfl⟩,.inr ⟨_,rfl,.inl rfl⟩,.inr ⟨_,rfl,.inl rfl⟩,.inr ⟨_,rfl,.inl rfl⟩,.inr ⟨_,rfl,.inl rfl⟩,.inr ⟨_,rfl,.inl rfl⟩,.inr ⟨_,rfl,.inl rfl⟩,.inr ⟨_,rfl,.inl rfl⟩,.inr ⟨_,rfl,.inl rfl⟩,.inr ⟨_,rfl,.inl rfl⟩,.inr ⟨_,rfl,.inl rfl⟩,.inr ⟨_,rfl,.inl rfl⟩,.inr ⟨_,rfl,.inl rfl⟩,.inr ⟨_,rfl,.inl rfl⟩,.inr ⟨_,rfl,.inl rfl⟩,.inr ⟨_,rfl,.inl rfl⟩,.inr ⟨_,rfl,.inl rfl⟩,.inr ⟨_,rfl,.inl rfl⟩,.inr ⟨_,rfl,.inl rfl⟩,.inr ⟨_,rfl,.inl rfl⟩,.inr ⟨_,rfl,.inl rfl⟩,.inr ⟨_,rfl,.inl rfl⟩,.inr ⟨_,rfl,.inl rfl⟩,trivial⟩ ?_
 refine Run.trim (T':=[(1,.ptr 6 0),(3,.opq 7),(4,.ptr 10 0),(6,.ptr 11 0),(8,.opq 35),(9,ii (((0:Nat):Nat):Int))]) (M':=((35,.row 2 (trO x l p (0:Nat)).length ((trO x l p (0:Nat)).flatMap Evt.cells) 62)::(11,.cells [ii (((0:Nat):Nat):Int),.opq 12,ii x.n.inp,.opq 13,.opq 14,.mp 19,.mp 20,.mp 21,.mp 22,.mp 23,.mp 24,.mp 25,.mp 26,.mp 27,.mp 28,.mp 29,.mp 30,.mp 31,.mp 32,.mp 33,.mp 34,.opq 15,.opq 16,.opq 17,.mp 18] 96)::(12,.row 8 x.n.N.length ((x.n.N.flatMap Prm.vals).map .v) 60)::(13,.row 4 x.n.S.length ((x.n.S.flatMap Syn.vals).map .v) 55)::(14,.row 2 x.n.N.length ((trS x l p (0:Nat)).st.flatMap Ste.cells) 139)::(15,.row 10 x.rs.length ((x.rs.flatMap Rul.vals).map .v) 36)::(16,.row 1 x.pl.length ((ints x.pl).map .v) 3)::(17,.row 4 x.pl.length ((trS x l p (0:Nat)).m.flatMap Mrk.cells) 84)::(18,.kmap true true x.tot)::(19,.kmap false false (sentE ((trS x l p (0:Nat)).sm 0)))::(20,.kmap false false (sentE ((trS x l p (0:Nat)).sm 1)))::(21,.kmap false false (sentE ((trS x l p (0:Nat)).sm 2)))::(22,.kmap false false (sentE ((trS x l p (0:Nat)).sm 3)))::(23,.kmap false false (sentE ((trS x l p (0:Nat)).sm 4)))::(24,.kmap false false (sentE ((trS x l p (0:Nat)).sm 5)))::(25,.kmap false false (sentE ((trS x l p (0:Nat)).sm 6)))::(26,.kmap false false (sentE ((trS x l p (0:Nat)).sm 7)))::(27,.kmap false false (sentE ((trS x l p (0:Nat)).sm 8)))::(28,.kmap false false (sentE ((trS x l p (0:Nat)).sm 9)))::(29,.kmap false false (sentE ((trS x l p (0:Nat)).sm 10)))::(30,.kmap false false (sentE ((trS x l p (0:Nat)).sm 11)))::(31,.kmap false false (sentE ((trS x l p (0:Nat)).sm 12)))::(32,.kmap false false (sentE ((trS x l p (0:Nat)).sm 13)))::(33,.kmap false false (sentE ((trS x l p (0:Nat)).sm 14)))::(34,.kmap false false (sentE ((trS x l p (0:Nat)).sm 15)))::(7,.row 2 (trO x l p KN).length ((trO x l p KN).flatMap Evt.cells) 62)::(8,.row 8 x.n.N.length ((x.n.N.flatMap Prm.vals).map .v) 60)::(9,.row 4 x.n.S.length ((nowL x.n.S (trS x l p KN).m).flatMap Syn.cells) 55)::(10,.cells [.opq 8,ii x.n.inp,.opq 9] 25)::(6,.cells [.opq 0,ii x.n.inp,.opq 1,.opq 2,.opq 3,.opq 4,.opq 5,ii (KN:Int)] 45)::(0,.rwin 8 x.n.N.length (x.n.N.flatMap Prm.vals))::(1,.rwin 4 x.n.S.length (x.n.S.flatMap Syn.vals))::(2,.rwin 10 x.rs.length (x.rs.flatMap Rul.vals))::(3,.rwin 1 x.pl.length (ints x.pl))::(4,.rwin 2 l.length (l.flatMap Evt.vals))::(5,.rwin 3 p.length (p.flatMap Prz.vals))::[])) 36 ⟨⟨rfl,(show 6<36 by decide)⟩,⟨rfl,(show 7<36 by decide)⟩,⟨rfl,(show 10<36 by decide)⟩,⟨rfl,(show 11<36 by decide)⟩,⟨rfl,(show 35<36 by decide)⟩,⟨rfl,trivial⟩,trivial⟩ ⟨⟨rfl,by omega,scs_evts _ _⟩,⟨rfl,by omega,by simp [SObj.sc,SV.scs,SV.sc]⟩,⟨rfl,by omega,scs_v _ _⟩,⟨rfl,by omega,scs_v _ _⟩,⟨rfl,by omega,scs_st _ _⟩,⟨rfl,by omega,scs_v _ _⟩,⟨rfl,by omega,scs_v _ _⟩,⟨rfl,by omega,scs_marks _ _⟩,⟨rfl,by omega,trivial⟩,⟨rfl,by omega,trivial⟩,⟨rfl,by omega,trivial⟩,⟨rfl,by omega,trivial⟩,⟨rfl,by omega,trivial⟩,⟨rfl,by omega,trivial⟩,⟨rfl,by omega,trivial⟩,⟨rfl,by omega,trivial⟩,⟨rfl,by omega,trivial⟩,⟨rfl,by omega,trivial⟩,⟨rfl,by omega,trivial⟩,⟨rfl,by omega,trivial⟩,⟨rfl,by omega,trivial⟩,⟨rfl,by omega,trivial⟩,⟨rfl,by omega,trivial⟩,⟨rfl,by omega,trivial⟩,⟨rfl,by omega,trivial⟩,⟨rfl,by omega,scs_evts _ _⟩,⟨rfl,by omega,scs_v _ _⟩,⟨rfl,by omega,scs_syns _ _⟩,⟨rfl,by omega,by simp [SObj.sc,SV.scs,SV.sc]⟩,⟨rfl,by omega,by simp [SObj.sc,SV.scs,SV.sc]⟩,⟨rfl,by omega,trivial⟩,⟨rfl,by omega,trivial⟩,⟨rfl,by omega,trivial⟩,⟨rfl,by omega,trivial⟩,⟨rfl,by omega,trivial⟩,⟨rfl,by omega,trivial⟩,trivial⟩ (fun p hp=>by cases hp) ?_
 refine Run.upToJ (T:=fun i=>[(1,.ptr 6 0),(3,.opq 7),(4,.ptr 10 0),(6,.ptr 11 0),(8,.opq 35),(9,ii ((i:Nat):Int))]) (M:=fun i=>((35,.row 2 (trO x l p i).length ((trO x l p i).flatMap Evt.cells) 62)::(11,.cells [ii ((i:Nat):Int),.opq 12,ii x.n.inp,.opq 13,.opq 14,.mp 19,.mp 20,.mp 21,.mp 22,.mp 23,.mp 24,.mp 25,.mp 26,.mp 27,.mp 28,.mp 29,.mp 30,.mp 31,.mp 32,.mp 33,.mp 34,.opq 15,.opq 16,.opq 17,.mp 18] 96)::(12,.row 8 x.n.N.length ((x.n.N.flatMap Prm.vals).map .v) 60)::(13,.row 4 x.n.S.length ((x.n.S.flatMap Syn.vals).map .v) 55)::(14,.row 2 x.n.N.length ((trS x l p i).st.flatMap Ste.cells) 139)::(15,.row 10 x.rs.length ((x.rs.flatMap Rul.vals).map .v) 36)::(16,.row 1 x.pl.length ((ints x.pl).map .v) 3)::(17,.row 4 x.pl.length ((trS x l p i).m.flatMap Mrk.cells) 84)::(18,.kmap true true x.tot)::(19,.kmap false false (sentE ((trS x l p i).sm 0)))::(20,.kmap false false (sentE ((trS x l p i).sm 1)))::(21,.kmap false false (sentE ((trS x l p i).sm 2)))::(22,.kmap false false (sentE ((trS x l p i).sm 3)))::(23,.kmap false false (sentE ((trS x l p i).sm 4)))::(24,.kmap false false (sentE ((trS x l p i).sm 5)))::(25,.kmap false false (sentE ((trS x l p i).sm 6)))::(26,.kmap false false (sentE ((trS x l p i).sm 7)))::(27,.kmap false false (sentE ((trS x l p i).sm 8)))::(28,.kmap false false (sentE ((trS x l p i).sm 9)))::(29,.kmap false false (sentE ((trS x l p i).sm 10)))::(30,.kmap false false (sentE ((trS x l p i).sm 11)))::(31,.kmap false false (sentE ((trS x l p i).sm 12)))::(32,.kmap false false (sentE ((trS x l p i).sm 13)))::(33,.kmap false false (sentE ((trS x l p i).sm 14)))::(34,.kmap false false (sentE ((trS x l p i).sm 15)))::(7,.row 2 (trO x l p KN).length ((trO x l p KN).flatMap Evt.cells) 62)::(8,.row 8 x.n.N.length ((x.n.N.flatMap Prm.vals).map .v) 60)::(9,.row 4 x.n.S.length ((nowL x.n.S (trS x l p KN).m).flatMap Syn.cells) 55)::(10,.cells [.opq 8,ii x.n.inp,.opq 9] 25)::(6,.cells [.opq 0,ii x.n.inp,.opq 1,.opq 2,.opq 3,.opq 4,.opq 5,ii (KN:Int)] 45)::(0,.rwin 8 x.n.N.length (x.n.N.flatMap Prm.vals))::(1,.rwin 4 x.n.S.length (x.n.S.flatMap Syn.vals))::(2,.rwin 10 x.rs.length (x.rs.flatMap Rul.vals))::(3,.rwin 1 x.pl.length (ints x.pl))::(4,.rwin 2 l.length (l.flatMap Evt.vals))::(5,.rwin 3 p.length (p.flatMap Prz.vals))::[])) (fun _=>True) (KN) (trivial) ?_ ?_
 ·intro i hi hJ ih
  refine Run.of_wpK (hc w [] none (fun _ h=>by cases h)) 1000 _ ?_
  conv=>whnf
  rw [decide_eq_true (show ((i:Nat):Int)<(KN:Int) by omega)]
  conv=>whnf
  obtain ⟨s,hs⟩ : ∃ s,trS x l p i=s:=⟨_,rfl⟩
  obtain ⟨O,hO⟩ : ∃ O,trO x l p i=O:=⟨_,rfl⟩
  have hst:s.tick=(i:Int):=by rw [← hs]; exact trS_tick x l p i (by omega)
  have hinv:LInv x s:=by rw [← hs]; exact trS_inv hx l p i (by omega)
  have hOl:O.length≤65536:=by
   rw [← hO]
   exact Nat.le_trans (trO_len x l p i) (Nat.le_trans (Nat.mul_le_mul_right _ (by omega)) hKN)
  rw [hs,hO]
  refine Run.callP (vs:=[.agg [.opq 0,ii x.n.inp,.opq 1,.opq 2,.opq 3,.opq 4,.opq 5,ii (KN:Int)],ii ((i:Nat):Int)]) (caps:=[]) (at_spec x.n.inp (KN:Int) ((i:Nat):Int) x.rs l p (by omega) (by omega) (by omega)) (ent _ _ Try.func26 (by kernel_rfl) rfl) rfl rfl rfl rfl rfl rfl rfl (by decide) (by decide)
   ⟨⟨by omega,trivial,⟨_,rfl,Conv.refl _⟩,.inl rfl,fun _=>by simp⟩,⟨by omega,trivial,⟨_,rfl,Conv.refl _⟩,.inl rfl,fun _=>by simp⟩,⟨by omega,trivial,⟨_,rfl,Conv.refl _⟩,.inl rfl,fun _=>by simp⟩,trivial⟩ (fun i hi=>by cases hi) (.tup [.opq 36,.opq 37]) ((36,.row 1 (atIn l ((i:Nat):Int)).length ((atIn l ((i:Nat):Int)).map fun x=>ii x) 3)::(37,.row 1 x.rs.length ((atRw x.rs.length p ((i:Nat):Int)).map fun x=>ii x) 3)::(35,.row 2 O.length (O.flatMap Evt.cells) 62)::(11,.cells [ii ((i:Nat):Int),.opq 12,ii x.n.inp,.opq 13,.opq 14,.mp 19,.mp 20,.mp 21,.mp 22,.mp 23,.mp 24,.mp 25,.mp 26,.mp 27,.mp 28,.mp 29,.mp 30,.mp 31,.mp 32,.mp 33,.mp 34,.opq 15,.opq 16,.opq 17,.mp 18] 96)::(12,.row 8 x.n.N.length ((x.n.N.flatMap Prm.vals).map .v) 60)::(13,.row 4 x.n.S.length ((x.n.S.flatMap Syn.vals).map .v) 55)::(14,.row 2 x.n.N.length (s.st.flatMap Ste.cells) 139)::(15,.row 10 x.rs.length ((x.rs.flatMap Rul.vals).map .v) 36)::(16,.row 1 x.pl.length ((ints x.pl).map .v) 3)::(17,.row 4 x.pl.length (s.m.flatMap Mrk.cells) 84)::(18,.kmap true true x.tot)::(19,.kmap false false (sentE (s.sm 0)))::(20,.kmap false false (sentE (s.sm 1)))::(21,.kmap false false (sentE (s.sm 2)))::(22,.kmap false false (sentE (s.sm 3)))::(23,.kmap false false (sentE (s.sm 4)))::(24,.kmap false false (sentE (s.sm 5)))::(25,.kmap false false (sentE (s.sm 6)))::(26,.kmap false false (sentE (s.sm 7)))::(27,.kmap false false (sentE (s.sm 8)))::(28,.kmap false false (sentE (s.sm 9)))::(29,.kmap false false (sentE (s.sm 10)))::(30,.kmap false false (sentE (s.sm 11)))::(31,.kmap false false (sentE (s.sm 12)))::(32,.kmap false false (sentE (s.sm 13)))::(33,.kmap false false (sentE (s.sm 14)))::(34,.kmap false false (sentE (s.sm 15)))::(7,.row 2 (trO x l p KN).length ((trO x l p KN).flatMap Evt.cells) 62)::(8,.row 8 x.n.N.length ((x.n.N.flatMap Prm.vals).map .v) 60)::(9,.row 4 x.n.S.length ((nowL x.n.S (trS x l p KN).m).flatMap Syn.cells) 55)::(10,.cells [.opq 8,ii x.n.inp,.opq 9] 25)::(6,.cells [.opq 0,ii x.n.inp,.opq 1,.opq 2,.opq 3,.opq 4,.opq 5,ii (KN:Int)] 45)::(0,.rwin 8 x.n.N.length (x.n.N.flatMap Prm.vals))::(1,.rwin 4 x.n.S.length (x.n.S.flatMap Syn.vals))::(2,.rwin 10 x.rs.length (x.rs.flatMap Rul.vals))::(3,.rwin 1 x.pl.length (ints x.pl))::(4,.rwin 2 l.length (l.flatMap Evt.vals))::(5,.rwin 3 p.length (p.flatMap Prz.vals))::[]) 38 rfl rfl
   ⟨.inr ⟨6,_,rfl,rfl,(oren_fix (S:=fun _=>False) (fun i hi=>hi.elim) (o := .row 1 (atIn l ((i:Nat):Int)).length ((atIn l ((i:Nat):Int)).map fun x=>ii x) 3) (scs_i _ _)).symm,rfl⟩,.inr ⟨7,_,rfl,rfl,(oren_fix (S:=fun _=>False) (fun i hi=>hi.elim) (o := .row 1 x.rs.length ((atRw x.rs.length p ((i:Nat):Int)).map fun x=>ii x) 3) (scs_i _ _)).symm,rfl⟩,.inl ⟨rfl,by simp⟩,.inl ⟨rfl,by simp⟩,.inl ⟨rfl,by simp⟩,.inl ⟨rfl,by simp⟩,.inl ⟨rfl,by simp⟩,.inl ⟨rfl,by simp⟩,.inl ⟨rfl,by simp⟩,.inl ⟨rfl,by simp⟩,.inl ⟨rfl,by simp⟩,.inl ⟨rfl,by simp⟩,.inl ⟨rfl,by simp⟩,.inl ⟨rfl,by simp⟩,.inl ⟨rfl,by simp⟩,.inl ⟨rfl,by simp⟩,.inl ⟨rfl,by simp⟩,.inl ⟨rfl,by simp⟩,.inl ⟨rfl,by simp⟩,.inl ⟨rfl,by simp⟩,.inl ⟨rfl,by simp⟩,.inl ⟨rfl,by simp⟩,.inl ⟨rfl,by simp⟩,.inl ⟨rfl,by simp⟩,.inl ⟨rfl,by simp⟩,.inl ⟨rfl,by simp⟩,.inl ⟨rfl,by simp⟩,.inl ⟨rfl,by simp⟩,.inl ⟨rfl,by simp⟩,.inl ⟨rfl,by simp⟩,.inl ⟨rfl,by simp⟩,.inl ⟨rfl,by simp⟩,.inl ⟨rfl,by simp⟩,.inl ⟨rfl,by simp⟩,.inl ⟨rfl,by simp⟩,.inl ⟨rfl,by simp⟩,.inl ⟨rfl,by simp⟩,.inl ⟨rfl,by simp⟩,trivial⟩ ?_
  refine Run.of_wpK (hc w [] none (fun _ h=>by cases h)) 1000 _ ?_
  conv=>whnf
  have hrl:=atRw_len x.rs.length p ((i:Nat):Int)
  have hck:stepChk x s (atIn l ((i:Nat):Int)) (atRw x.rs.length p ((i:Nat):Int))=0:=by
   unfold stepChk
   rw [if_neg (by omega),hev.ins ⟨hx.inp0,hx.inp1⟩,hpz.rw]; rfl
  have hail:=atIn_len l ((i:Nat):Int)
  have hstep:=Step_ok x s (atIn l ((i:Nat):Int)) (atRw x.rs.length p ((i:Nat):Int)) hx hinv hck (by omega) (by omega)
  rw [rwOf_at hrl] at hstep
  obtain ⟨s2,hs2⟩ : ∃ s2,lN x s (atIn l ((i:Nat):Int)) (atRw x.rs.length p ((i:Nat):Int))=s2:=⟨_,rfl⟩
  have hs3:trS x l p (i+1)=s2:=by
   rw [← hs2,← hs]
   show lN x (trS x l p i) (trIn l i) (trRw x.rs.length p i)=_
   rw [hIn,hRw]
  have hO3:trO x l p (i+1)=O++spk ((i:Nat):Int) ((lOut x s).take (lOut x s).length):=by
   rw [← hO,← hs,List.take_length]; rfl
  rw [hs2] at hstep
  unfold lM lC at hstep
  rw [hst,hrl,show W (((i:Nat):Int)+1)=((i+1:Nat):Int) from wrap_succ (by omega)] at hstep
  obtain ⟨k,hk⟩ : ∃ k,slotN ((i:Nat):Int)=k:=⟨_,rfl⟩
  have hk16:k<16:=hk▸slotN_lt
  rw [hk] at hstep
  obtain ⟨S2,hS2⟩ : ∃ S2,s2.sm k=S2:=⟨_,rfl⟩
  have hssm : ∀ j,s2.sm j=if j=k then S2 else s.sm j:=fun j=>by
   have e : ∀ j,s2.sm j=if j=k then sendL (lB x s).2.2 (atIn l ((i:Nat):Int)) else s.sm j:=fun j=>by
    rw [← hs2,← hk,← hst]; rfl
   rw [← hS2,e j,e k,if_pos rfl]
  rw [hS2] at hstep
  have hol:=lOut_len x s
  obtain ⟨o,ho⟩ : ∃ o,lOut x s=o:=⟨_,rfl⟩
  rw [ho] at hstep hol hO3
  have hisn : ∀ k:Nat,(k≠11∧k≠14∧k≠17) → ∀ q∈([0,3,6]:List Nat),(fun q=>if q<24 then 11+q else if q=24 then 36 else 37) q≠k:=by
   intro k hk q hq
   have hq2:q=0∨q=3∨q=6:=by simpa using hq
   rcases hq2 with rfl | rfl | rfl
   ·exact hk.1.symm
   ·exact hk.2.1.symm
   ·exact hk.2.2.symm
  refine Run.callR (vs:=[.ptr 0 0,.opq 24,.opq 25]) (caps:=[]) (caps2:=[]) hstep (ent _ _ Try.func27 (by kernel_rfl) rfl) rfl rfl rfl rfl rfl rfl [.ptr 11 0,.opq 36,.opq 37] rfl (fun q=>if q<24 then 11+q else if q=24 then 36 else 37) rfl (fun q hq=>by have inv : ∀ q,q<26→(fun q=>if q<24 then 11+q else if q=24 then 36 else 37) q<38:=(by decide); exact inv q hq) (fun q hq j hj hne=>by have inj : ∀ i,i<26 → ∀ j,j<26→i≠j→(fun q=>if q<24 then 11+q else if q=24 then 36 else 37) i≠(fun q=>if q<24 then 11+q else if q=24 then 36 else 37) j:=(by decide); exact inj q hq j hj hne) (by decide)
   ⟨⟨by omega,by simp [lcells,SObj.sc,SV.scs,SV.sc],⟨_,rfl,Conv.refl _⟩,.inr (by simp),fun h=>by cases h⟩,⟨by omega,trivial,⟨_,rfl,Conv.row (by decide) rfl⟩,.inl rfl,fun _=>by simp⟩,⟨by omega,trivial,⟨_,rfl,Conv.row (by decide) rfl⟩,.inl rfl,fun _=>by simp⟩,⟨by omega,scs_st _ _,⟨_,rfl,by rw [oren_fix (S:=fun _=>False) (fun i hi=>hi.elim) (o := .row 2 x.n.N.length (s.st.flatMap Ste.cells) 139) (scs_st _ _)]; exact Conv.refl _⟩,.inr (by simp),fun h=>by cases h⟩,⟨by omega,trivial,⟨_,rfl,Conv.row (by decide) rfl⟩,.inl rfl,fun _=>by simp⟩,⟨by omega,trivial,⟨_,rfl,Conv.row (by decide) rfl⟩,.inl rfl,fun _=>by simp⟩,⟨by omega,scs_marks _ _,⟨_,rfl,by rw [oren_fix (S:=fun _=>False) (fun i hi=>hi.elim) (o := .row 4 x.pl.length (s.m.flatMap Mrk.cells) 84) (scs_marks _ _)]; exact Conv.refl _⟩,.inr (by simp),fun h=>by cases h⟩,⟨by omega,trivial,⟨_,rfl,Conv.map⟩,.inl rfl,fun _=>by simp⟩,⟨by omega,trivial,⟨_,rfl,Conv.map⟩,.inl rfl,fun _=>by simp⟩,⟨by omega,trivial,⟨_,rfl,Conv.map⟩,.inl rfl,fun _=>by simp⟩,⟨by omega,trivial,⟨_,rfl,Conv.map⟩,.inl rfl,fun _=>by simp⟩,⟨by omega,trivial,⟨_,rfl,Conv.map⟩,.inl rfl,fun _=>by simp⟩,⟨by omega,trivial,⟨_,rfl,Conv.map⟩,.inl rfl,fun _=>by simp⟩,⟨by omega,trivial,⟨_,rfl,Conv.map⟩,.inl rfl,fun _=>by simp⟩,⟨by omega,trivial,⟨_,rfl,Conv.map⟩,.inl rfl,fun _=>by simp⟩,⟨by omega,trivial,⟨_,rfl,Conv.map⟩,.inl rfl,fun _=>by simp⟩,⟨by omega,trivial,⟨_,rfl,Conv.map⟩,.inl rfl,fun _=>by simp⟩,⟨by omega,trivial,⟨_,rfl,Conv.map⟩,.inl rfl,fun _=>by simp⟩,⟨by omega,trivial,⟨_,rfl,Conv.map⟩,.inl rfl,fun _=>by simp⟩,⟨by omega,trivial,⟨_,rfl,Conv.map⟩,.inl rfl,fun _=>by simp⟩,⟨by omega,trivial,⟨_,rfl,Conv.map⟩,.inl rfl,fun _=>by simp⟩,⟨by omega,trivial,⟨_,rfl,Conv.map⟩,.inl rfl,fun _=>by simp⟩,⟨by omega,trivial,⟨_,rfl,Conv.map⟩,.inl rfl,fun _=>by simp⟩,⟨by omega,trivial,⟨_,rfl,Conv.map⟩,.inl rfl,fun _=>by simp⟩,⟨by omega,trivial,⟨_,rfl,Conv.row (by decide) (ints_iv _)⟩,.inl rfl,fun _=>by simp⟩,⟨by omega,trivial,⟨_,rfl,Conv.row (by decide) (ints_iv _)⟩,.inl rfl,fun _=>by simp⟩,trivial⟩ (fun q hq=>by
    have hq2:q=0∨q=3∨q=6:=by simpa using hq
    rcases hq2 with rfl | rfl | rfl <;> exact ⟨by omega,_,rfl⟩) (.tup [.opq 39,ii 0]) ((38,.kmap false true (sentE S2))::(39,.row 1 o.length (o.map fun x=>ii x) 3)::(11,(SObj.cells (lcells (ii ((i+1:Nat):Int)) x.n.inp (fun j => .mp (if j=k then 26 else 8+j)) (.mp 7)) 96).ren (shR (fun q=>if q<24 then 11+q else if q=24 then 36 else 37) 26 38))::(12,.row 8 x.n.N.length ((x.n.N.flatMap Prm.vals).map .v) 60)::(13,.row 4 x.n.S.length ((x.n.S.flatMap Syn.vals).map .v) 55)::(14,.row 2 x.n.N.length (s2.st.flatMap Ste.cells) 139)::(15,.row 10 x.rs.length ((x.rs.flatMap Rul.vals).map .v) 36)::(16,.row 1 x.pl.length ((ints x.pl).map .v) 3)::(17,.row 4 x.pl.length (s2.m.flatMap Mrk.cells) 84)::(18,.kmap true true x.tot)::(19,.kmap false false (sentE (s.sm 0)))::(20,.kmap false false (sentE (s.sm 1)))::(21,.kmap false false (sentE (s.sm 2)))::(22,.kmap false false (sentE (s.sm 3)))::(23,.kmap false false (sentE (s.sm 4)))::(24,.kmap false false (sentE (s.sm 5)))::(25,.kmap false false (sentE (s.sm 6)))::(26,.kmap false false (sentE (s.sm 7)))::(27,.kmap false false (sentE (s.sm 8)))::(28,.kmap false false (sentE (s.sm 9)))::(29,.kmap false false (sentE (s.sm 10)))::(30,.kmap false false (sentE (s.sm 11)))::(31,.kmap false false (sentE (s.sm 12)))::(32,.kmap false false (sentE (s.sm 13)))::(33,.kmap false false (sentE (s.sm 14)))::(34,.kmap false false (sentE (s.sm 15)))::(36,.row 1 (atIn l ((i:Nat):Int)).length ((atIn l ((i:Nat):Int)).map fun x=>ii x) 3)::(37,.row 1 x.rs.length ((atRw x.rs.length p ((i:Nat):Int)).map fun x=>ii x) 3)::(35,.row 2 O.length (O.flatMap Evt.cells) 62)::(7,.row 2 (trO x l p KN).length ((trO x l p KN).flatMap Evt.cells) 62)::(8,.row 8 x.n.N.length ((x.n.N.flatMap Prm.vals).map .v) 60)::(9,.row 4 x.n.S.length ((nowL x.n.S (trS x l p KN).m).flatMap Syn.cells) 55)::(10,.cells [.opq 8,ii x.n.inp,.opq 9] 25)::(6,.cells [.opq 0,ii x.n.inp,.opq 1,.opq 2,.opq 3,.opq 4,.opq 5,ii (KN:Int)] 45)::(0,.rwin 8 x.n.N.length (x.n.N.flatMap Prm.vals))::(1,.rwin 4 x.n.S.length (x.n.S.flatMap Syn.vals))::(2,.rwin 10 x.rs.length (x.rs.flatMap Rul.vals))::(3,.rwin 1 x.pl.length (ints x.pl))::(4,.rwin 2 l.length (l.flatMap Evt.vals))::(5,.rwin 3 p.length (p.flatMap Prz.vals))::[]) 40 rfl rfl
   ⟨.inr ⟨26,_,rfl,rfl,rfl,rfl⟩,.inr ⟨27,_,rfl,rfl,(oren_fix (S:=fun _=>False) (fun i hi=>hi.elim) (o := .row 1 o.length (o.map fun x=>ii x) 3) (scs_i _ _)).symm,rfl⟩,.inr ⟨0,_,rfl,rfl,rfl,rfl⟩,.inl ⟨rfl,hisn 12 (by decide)⟩,.inl ⟨rfl,hisn 13 (by decide)⟩,.inr ⟨3,_,rfl,rfl,(oren_fix (S:=fun _=>False) (fun i hi=>hi.elim) (o := .row 2 x.n.N.length (s2.st.flatMap Ste.cells) 139) (scs_st _ _)).symm,rfl⟩,.inl ⟨rfl,hisn 15 (by decide)⟩,.inl ⟨rfl,hisn 16 (by decide)⟩,.inr ⟨6,_,rfl,rfl,(oren_fix (S:=fun _=>False) (fun i hi=>hi.elim) (o := .row 4 x.pl.length (s2.m.flatMap Mrk.cells) 84) (scs_marks _ _)).symm,rfl⟩,.inl ⟨rfl,hisn 18 (by decide)⟩,.inl ⟨rfl,hisn 19 (by decide)⟩,.inl ⟨rfl,hisn 20 (by decide)⟩,.inl ⟨rfl,hisn 21 (by decide)⟩,.inl ⟨rfl,hisn 22 (by decide)⟩,.inl ⟨rfl,hisn 23 (by decide)⟩,.inl ⟨rfl,hisn 24 (by decide)⟩,.inl ⟨rfl,hisn 25 (by decide)⟩,.inl ⟨rfl,hisn 26 (by decide)⟩,.inl ⟨rfl,hisn 27 (by decide)⟩,.inl ⟨rfl,hisn 28 (by decide)⟩,.inl ⟨rfl,hisn 29 (by decide)⟩,.inl ⟨rfl,hisn 30 (by decide)⟩,.inl ⟨rfl,hisn 31 (by decide)⟩,.inl ⟨rfl,hisn 32 (by decide)⟩,.inl ⟨rfl,hisn 33 (by decide)⟩,.inl ⟨rfl,hisn 34 (by decide)⟩,.inl ⟨rfl,hisn 36 (by decide)⟩,.inl ⟨rfl,hisn 37 (by decide)⟩,.inl ⟨rfl,hisn 35 (by decide)⟩,.inl ⟨rfl,hisn 7 (by decide)⟩,.inl ⟨rfl,hisn 8 (by decide)⟩,.inl ⟨rfl,hisn 9 (by decide)⟩,.inl ⟨rfl,hisn 10 (by decide)⟩,.inl ⟨rfl,hisn 6 (by decide)⟩,.inl ⟨rfl,hisn 0 (by decide)⟩,.inl ⟨rfl,hisn 1 (by decide)⟩,.inl ⟨rfl,hisn 2 (by decide)⟩,.inl ⟨rfl,hisn 3 (by decide)⟩,.inl ⟨rfl,hisn 4 (by decide)⟩,.inl ⟨rfl,hisn 5 (by decide)⟩,trivial⟩ ?_
  refine Run.weak (M':=((38,.kmap false false (sentE S2))::(39,.row 1 o.length (o.map fun x=>ii x) 3)::(11,(SObj.cells (lcells (ii ((i+1:Nat):Int)) x.n.inp (fun j => .mp (if j=k then 26 else 8+j)) (.mp 7)) 96).ren (shR (fun q=>if q<24 then 11+q else if q=24 then 36 else 37) 26 38))::(12,.row 8 x.n.N.length ((x.n.N.flatMap Prm.vals).map .v) 60)::(13,.row 4 x.n.S.length ((x.n.S.flatMap Syn.vals).map .v) 55)::(14,.row 2 x.n.N.length (s2.st.flatMap Ste.cells) 139)::(15,.row 10 x.rs.length ((x.rs.flatMap Rul.vals).map .v) 36)::(16,.row 1 x.pl.length ((ints x.pl).map .v) 3)::(17,.row 4 x.pl.length (s2.m.flatMap Mrk.cells) 84)::(18,.kmap true true x.tot)::(19,.kmap false false (sentE (s.sm 0)))::(20,.kmap false false (sentE (s.sm 1)))::(21,.kmap false false (sentE (s.sm 2)))::(22,.kmap false false (sentE (s.sm 3)))::(23,.kmap false false (sentE (s.sm 4)))::(24,.kmap false false (sentE (s.sm 5)))::(25,.kmap false false (sentE (s.sm 6)))::(26,.kmap false false (sentE (s.sm 7)))::(27,.kmap false false (sentE (s.sm 8)))::(28,.kmap false false (sentE (s.sm 9)))::(29,.kmap false false (sentE (s.sm 10)))::(30,.kmap false false (sentE (s.sm 11)))::(31,.kmap false false (sentE (s.sm 12)))::(32,.kmap false false (sentE (s.sm 13)))::(33,.kmap false false (sentE (s.sm 14)))::(34,.kmap false false (sentE (s.sm 15)))::(36,.row 1 (atIn l ((i:Nat):Int)).length ((atIn l ((i:Nat):Int)).map fun x=>ii x) 3)::(37,.row 1 x.rs.length ((atRw x.rs.length p ((i:Nat):Int)).map fun x=>ii x) 3)::(35,.row 2 O.length (O.flatMap Evt.cells) 62)::(7,.row 2 (trO x l p KN).length ((trO x l p KN).flatMap Evt.cells) 62)::(8,.row 8 x.n.N.length ((x.n.N.flatMap Prm.vals).map .v) 60)::(9,.row 4 x.n.S.length ((nowL x.n.S (trS x l p KN).m).flatMap Syn.cells) 55)::(10,.cells [.opq 8,ii x.n.inp,.opq 9] 25)::(6,.cells [.opq 0,ii x.n.inp,.opq 1,.opq 2,.opq 3,.opq 4,.opq 5,ii (KN:Int)] 45)::(0,.rwin 8 x.n.N.length (x.n.N.flatMap Prm.vals))::(1,.rwin 4 x.n.S.length (x.n.S.flatMap Syn.vals))::(2,.rwin 10 x.rs.length (x.rs.flatMap Rul.vals))::(3,.rwin 1 x.pl.length (ints x.pl))::(4,.rwin 2 l.length (l.flatMap Evt.vals))::(5,.rwin 3 p.length (p.flatMap Prz.vals))::[])) ⟨⟨_,rfl,.inr ⟨_,_,rfl,rfl⟩⟩,⟨_,rfl,.inl rfl⟩,⟨_,rfl,.inl rfl⟩,⟨_,rfl,.inl rfl⟩,⟨_,rfl,.inl rfl⟩,⟨_,rfl,.inl rfl⟩,⟨_,rfl,.inl rfl⟩,⟨_,rfl,.inl rfl⟩,⟨_,rfl,.inl rfl⟩,⟨_,rfl,.inl rfl⟩,⟨_,rfl,.inl rfl⟩,⟨_,rfl,.inl rfl⟩,⟨_,rfl,.inl rfl⟩,⟨_,rfl,.inl rfl⟩,⟨_,rfl,.inl rfl⟩,⟨_,rfl,.inl rfl⟩,⟨_,rfl,.inl rfl⟩,⟨_,rfl,.inl rfl⟩,⟨_,rfl,.inl rfl⟩,⟨_,rfl,.inl rfl⟩,⟨_,rfl,.inl rfl⟩,⟨_,rfl,.inl rfl⟩,⟨_,rfl,.inl rfl⟩,⟨_,rfl,.inl rfl⟩,⟨_,rfl,.inl rfl⟩,⟨_,rfl,.inl rfl⟩,⟨_,rfl,.inl rfl⟩,⟨_,rfl,.inl rfl⟩,⟨_,rfl,.inl rfl⟩,⟨_,rfl,.inl rfl⟩,⟨_,rfl,.inl rfl⟩,⟨_,rfl,.inl rfl⟩,⟨_,rfl,.inl rfl⟩,⟨_,rfl,.inl rfl⟩,⟨_,rfl,.inl rfl⟩,⟨_,rfl,.inl rfl⟩,⟨_,rfl,.inl rfl⟩,⟨_,rfl,.inl rfl⟩,⟨_,rfl,.inl rfl⟩,⟨_,rfl,.inl rfl⟩,trivial⟩ ?_
  refine Run.trimQ (T':=[(1,.ptr 6 0),(3,.opq 7),(4,.ptr 10 0),(6,.ptr 11 0),(8,.opq 35),(9,ii ((i:Nat):Int)),(72,.tup [.opq 39,ii 0])]) (M':=((39,.row 1 o.length (o.map fun x=>ii x) 3)::(11,.cells [ii ((i+1:Nat):Int),.opq 12,ii x.n.inp,.opq 13,.opq 14,.mp 19,.mp 20,.mp 21,.mp 22,.mp 23,.mp 24,.mp 25,.mp 26,.mp 27,.mp 28,.mp 29,.mp 30,.mp 31,.mp 32,.mp 33,.mp 34,.opq 15,.opq 16,.opq 17,.mp 18] 96)::(12,.row 8 x.n.N.length ((x.n.N.flatMap Prm.vals).map .v) 60)::(13,.row 4 x.n.S.length ((x.n.S.flatMap Syn.vals).map .v) 55)::(14,.row 2 x.n.N.length (s2.st.flatMap Ste.cells) 139)::(15,.row 10 x.rs.length ((x.rs.flatMap Rul.vals).map .v) 36)::(16,.row 1 x.pl.length ((ints x.pl).map .v) 3)::(17,.row 4 x.pl.length (s2.m.flatMap Mrk.cells) 84)::(18,.kmap true true x.tot)::(19,.kmap false false (sentE (s2.sm 0)))::(20,.kmap false false (sentE (s2.sm 1)))::(21,.kmap false false (sentE (s2.sm 2)))::(22,.kmap false false (sentE (s2.sm 3)))::(23,.kmap false false (sentE (s2.sm 4)))::(24,.kmap false false (sentE (s2.sm 5)))::(25,.kmap false false (sentE (s2.sm 6)))::(26,.kmap false false (sentE (s2.sm 7)))::(27,.kmap false false (sentE (s2.sm 8)))::(28,.kmap false false (sentE (s2.sm 9)))::(29,.kmap false false (sentE (s2.sm 10)))::(30,.kmap false false (sentE (s2.sm 11)))::(31,.kmap false false (sentE (s2.sm 12)))::(32,.kmap false false (sentE (s2.sm 13)))::(33,.kmap false false (sentE (s2.sm 14)))::(34,.kmap false false (sentE (s2.sm 15)))::(36,.row 1 (atIn l ((i:Nat):Int)).length ((atIn l ((i:Nat):Int)).map fun x=>ii x) 3)::(37,.row 1 x.rs.length ((atRw x.rs.length p ((i:Nat):Int)).map fun x=>ii x) 3)::(35,.row 2 O.length (O.flatMap Evt.cells) 62)::(7,.row 2 (trO x l p KN).length ((trO x l p KN).flatMap Evt.cells) 62)::(8,.row 8 x.n.N.length ((x.n.N.flatMap Prm.vals).map .v) 60)::(9,.row 4 x.n.S.length ((nowL x.n.S (trS x l p KN).m).flatMap Syn.cells) 55)::(10,.cells [.opq 8,ii x.n.inp,.opq 9] 25)::(6,.cells [.opq 0,ii x.n.inp,.opq 1,.opq 2,.opq 3,.opq 4,.opq 5,ii (KN:Int)] 45)::(0,.rwin 8 x.n.N.length (x.n.N.flatMap Prm.vals))::(1,.rwin 4 x.n.S.length (x.n.S.flatMap Syn.vals))::(2,.rwin 10 x.rs.length (x.rs.flatMap Rul.vals))::(3,.rwin 1 x.pl.length (ints x.pl))::(4,.rwin 2 l.length (l.flatMap Evt.vals))::(5,.rwin 3 p.length (p.flatMap Prz.vals))::[])) (rq [(19+k,38),(38,19+k)]) 40 ?_ ?_ ?_ ?_ ?_
  ·intro i hi j hj hne he
   have inv : ∀ i,i<40→rq [(19+k,38),(38,19+k)] (rq [(19+k,38),(38,19+k)] i)=i:=by rcases lt16 hk16 with rfl | rfl | rfl | rfl | rfl | rfl | rfl | rfl | rfl | rfl | rfl | rfl | rfl | rfl | rfl | rfl <;> decide
   exact hne (by rw [← inv i hi,he,inv j hj])
  ·rcases lt16 hk16 with rfl | rfl | rfl | rfl | rfl | rfl | rfl | rfl | rfl | rfl | rfl | rfl | rfl | rfl | rfl | rfl <;> exact ⟨⟨rfl,(show 6<40 by decide)⟩,⟨rfl,(show 7<40 by decide)⟩,⟨rfl,(show 10<40 by decide)⟩,⟨rfl,(show 11<40 by decide)⟩,⟨rfl,(show 35<40 by decide)⟩,⟨rfl,trivial⟩,⟨rfl,(show 39<40 by decide),trivial,trivial⟩,trivial⟩
  ·rcases lt16 hk16 with rfl | rfl | rfl | rfl | rfl | rfl | rfl | rfl | rfl | rfl | rfl | rfl | rfl | rfl | rfl | rfl <;> exact ⟨⟨congrArg some (oren_fix (S:=fun _=>False) (fun i hi=>hi.elim) (o := .row 1 o.length (o.map fun x=>ii x) 3) (scs_i _ _)).symm,by omega,scs_i _ _⟩,⟨rfl,by omega,by simp [SObj.sc,SV.scs,SV.sc]⟩,⟨congrArg some (oren_fix (S:=fun _=>False) (fun i hi=>hi.elim) (o := .row 8 x.n.N.length ((x.n.N.flatMap Prm.vals).map .v) 60) (scs_v _ _)).symm,by omega,scs_v _ _⟩,⟨congrArg some (oren_fix (S:=fun _=>False) (fun i hi=>hi.elim) (o := .row 4 x.n.S.length ((x.n.S.flatMap Syn.vals).map .v) 55) (scs_v _ _)).symm,by omega,scs_v _ _⟩,⟨congrArg some (oren_fix (S:=fun _=>False) (fun i hi=>hi.elim) (o := .row 2 x.n.N.length (s2.st.flatMap Ste.cells) 139) (scs_st _ _)).symm,by omega,scs_st _ _⟩,⟨congrArg some (oren_fix (S:=fun _=>False) (fun i hi=>hi.elim) (o := .row 10 x.rs.length ((x.rs.flatMap Rul.vals).map .v) 36) (scs_v _ _)).symm,by omega,scs_v _ _⟩,⟨congrArg some (oren_fix (S:=fun _=>False) (fun i hi=>hi.elim) (o := .row 1 x.pl.length ((ints x.pl).map .v) 3) (scs_v _ _)).symm,by omega,scs_v _ _⟩,⟨congrArg some (oren_fix (S:=fun _=>False) (fun i hi=>hi.elim) (o := .row 4 x.pl.length (s2.m.flatMap Mrk.cells) 84) (scs_marks _ _)).symm,by omega,scs_marks _ _⟩,⟨rfl,by omega,trivial⟩,⟨by rw [hssm]; rfl,by omega,trivial⟩,⟨by rw [hssm]; rfl,by omega,trivial⟩,⟨by rw [hssm]; rfl,by omega,trivial⟩,⟨by rw [hssm]; rfl,by omega,trivial⟩,⟨by rw [hssm]; rfl,by omega,trivial⟩,⟨by rw [hssm]; rfl,by omega,trivial⟩,⟨by rw [hssm]; rfl,by omega,trivial⟩,⟨by rw [hssm]; rfl,by omega,trivial⟩,⟨by rw [hssm]; rfl,by omega,trivial⟩,⟨by rw [hssm]; rfl,by omega,trivial⟩,⟨by rw [hssm]; rfl,by omega,trivial⟩,⟨by rw [hssm]; rfl,by omega,trivial⟩,⟨by rw [hssm]; rfl,by omega,trivial⟩,⟨by rw [hssm]; rfl,by omega,trivial⟩,⟨by rw [hssm]; rfl,by omega,trivial⟩,⟨by rw [hssm]; rfl,by omega,trivial⟩,⟨congrArg some (oren_fix (S:=fun _=>False) (fun i hi=>hi.elim) (o := .row 1 (atIn l ((i:Nat):Int)).length ((atIn l ((i:Nat):Int)).map fun x=>ii x) 3) (scs_i _ _)).symm,by omega,scs_i _ _⟩,⟨congrArg some (oren_fix (S:=fun _=>False) (fun i hi=>hi.elim) (o := .row 1 x.rs.length ((atRw x.rs.length p ((i:Nat):Int)).map fun x=>ii x) 3) (scs_i _ _)).symm,by omega,scs_i _ _⟩,⟨congrArg some (oren_fix (S:=fun _=>False) (fun i hi=>hi.elim) (o := .row 2 O.length (O.flatMap Evt.cells) 62) (scs_evts _ _)).symm,by omega,scs_evts _ _⟩,⟨congrArg some (oren_fix (S:=fun _=>False) (fun i hi=>hi.elim) (o := .row 2 (trO x l p KN).length ((trO x l p KN).flatMap Evt.cells) 62) (scs_evts _ _)).symm,by omega,scs_evts _ _⟩,⟨congrArg some (oren_fix (S:=fun _=>False) (fun i hi=>hi.elim) (o := .row 8 x.n.N.length ((x.n.N.flatMap Prm.vals).map .v) 60) (scs_v _ _)).symm,by omega,scs_v _ _⟩,⟨congrArg some (oren_fix (S:=fun _=>False) (fun i hi=>hi.elim) (o := .row 4 x.n.S.length ((nowL x.n.S (trS x l p KN).m).flatMap Syn.cells) 55) (scs_syns _ _)).symm,by omega,scs_syns _ _⟩,⟨rfl,by omega,by simp [SObj.sc,SV.scs,SV.sc]⟩,⟨rfl,by omega,by simp [SObj.sc,SV.scs,SV.sc]⟩,⟨rfl,by omega,trivial⟩,⟨rfl,by omega,trivial⟩,⟨rfl,by omega,trivial⟩,⟨rfl,by omega,trivial⟩,⟨rfl,by omega,trivial⟩,⟨rfl,by omega,trivial⟩,trivial⟩
  ·intro p hp; cases hp
  refine Run.of_wpK (hc w [] none (fun _ h=>by cases h)) 1000 _ ?_
  conv=>whnf
  have hinv2:LInv x s2:=by rw [← hs3]; exact trS_inv hx l p (i+1) (by omega)
  have hkp2:Kept x s2:=by rw [← hs3]; exact trS_kept hx l p (i+1) (by omega)
  have hmK:s2.m.length=x.pl.length:=by rw [hinv2.lm,hx4]
  have hnet:=Net_spec (ii ((i+1:Nat):Int)) x.n.inp (fun k => .mp (8+k)) x.n.N x.n.S s2.st s2.m (by simp [lcells,SV.scs,SV.sc]) (by rw [hmK,hx4]) hx2 hx1 hxN
  unfold nowM at hnet
  rw [hmK] at hnet
  refine Run.callR (vs:=[.ptr 0 0]) (caps:=[]) (caps2:=[]) hnet (ent _ _ Try.func28 (by kernel_rfl) rfl) rfl rfl rfl rfl rfl rfl [.ptr 11 0] rfl (fun q=>11+q) rfl (fun q hq=>by have inv : ∀ q,q<24→(fun q=>11+q) q<40:=(by decide); exact inv q hq) (fun q hq j hj hne=>by have inj : ∀ i,i<24 → ∀ j,j<24→i≠j→(fun q=>11+q) i≠(fun q=>11+q) j:=(by decide); exact inj q hq j hj hne) (by decide)
   ⟨⟨by omega,by simp [lcells,SObj.sc,SV.scs,SV.sc],⟨_,rfl,Conv.refl _⟩,.inr (by simp),fun h=>by cases h⟩,⟨by omega,trivial,⟨_,rfl,Conv.row (by decide) rfl⟩,.inl rfl,fun _=>by simp⟩,⟨by omega,trivial,⟨_,rfl,Conv.row (by decide) rfl⟩,.inl rfl,fun _=>by simp⟩,⟨by omega,trivial,⟨_,rfl,Conv.row (by decide) (marks_v _)⟩,.inl rfl,fun _=>by simp⟩,⟨by omega,trivial,⟨_,rfl,Conv.row (by decide) (steV _)⟩,.inl rfl,fun _=>by simp⟩,trivial⟩ (fun q hq=>by simp at hq; subst hq; exact ⟨by omega,_,rfl⟩) (.tup [.agg [.opq 40,ii x.n.inp,.opq 41],ii 0]) ((40,.row 8 x.n.N.length ((x.n.N.flatMap Prm.vals).map .v) 60)::(41,.row 4 x.n.S.length ((nowL x.n.S s2.m).flatMap Syn.cells) 55)::(11,.cells [ii ((i+1:Nat):Int),.opq 12,ii x.n.inp,.opq 13,.opq 14,.mp 19,.mp 20,.mp 21,.mp 22,.mp 23,.mp 24,.mp 25,.mp 26,.mp 27,.mp 28,.mp 29,.mp 30,.mp 31,.mp 32,.mp 33,.mp 34,.opq 15,.opq 16,.opq 17,.mp 18] 96)::(12,.row 8 x.n.N.length ((x.n.N.flatMap Prm.vals).map .v) 60)::(13,.row 4 x.n.S.length ((x.n.S.flatMap Syn.vals).map .v) 55)::(14,.row 2 x.n.N.length (s2.st.flatMap Ste.cells) 139)::(15,.row 10 x.rs.length ((x.rs.flatMap Rul.vals).map .v) 36)::(16,.row 1 x.pl.length ((ints x.pl).map .v) 3)::(17,.row 4 x.pl.length (s2.m.flatMap Mrk.cells) 84)::(18,.kmap true true x.tot)::(19,.kmap false false (sentE (s2.sm 0)))::(20,.kmap false false (sentE (s2.sm 1)))::(21,.kmap false false (sentE (s2.sm 2)))::(22,.kmap false false (sentE (s2.sm 3)))::(23,.kmap false false (sentE (s2.sm 4)))::(24,.kmap false false (sentE (s2.sm 5)))::(25,.kmap false false (sentE (s2.sm 6)))::(26,.kmap false false (sentE (s2.sm 7)))::(27,.kmap false false (sentE (s2.sm 8)))::(28,.kmap false false (sentE (s2.sm 9)))::(29,.kmap false false (sentE (s2.sm 10)))::(30,.kmap false false (sentE (s2.sm 11)))::(31,.kmap false false (sentE (s2.sm 12)))::(32,.kmap false false (sentE (s2.sm 13)))::(33,.kmap false false (sentE (s2.sm 14)))::(34,.kmap false false (sentE (s2.sm 15)))::(39,.row 1 o.length (o.map fun x=>ii x) 3)::(35,.row 2 O.length (O.flatMap Evt.cells) 62)::(7,.row 2 (trO x l p KN).length ((trO x l p KN).flatMap Evt.cells) 62)::(8,.row 8 x.n.N.length ((x.n.N.flatMap Prm.vals).map .v) 60)::(9,.row 4 x.n.S.length ((nowL x.n.S (trS x l p KN).m).flatMap Syn.cells) 55)::(10,.cells [.opq 8,ii x.n.inp,.opq 9] 25)::(6,.cells [.opq 0,ii x.n.inp,.opq 1,.opq 2,.opq 3,.opq 4,.opq 5,ii (KN:Int)] 45)::(0,.rwin 8 x.n.N.length (x.n.N.flatMap Prm.vals))::(1,.rwin 4 x.n.S.length (x.n.S.flatMap Syn.vals))::(2,.rwin 10 x.rs.length (x.rs.flatMap Rul.vals))::(3,.rwin 1 x.pl.length (ints x.pl))::(4,.rwin 2 l.length (l.flatMap Evt.vals))::(5,.rwin 3 p.length (p.flatMap Prz.vals))::[]) 42 rfl rfl
   ⟨.inr ⟨24,_,rfl,rfl,(oren_fix (S:=fun _=>False) (fun i hi=>hi.elim) (o := .row 8 x.n.N.length ((x.n.N.flatMap Prm.vals).map .v) 60) (scs_v _ _)).symm,rfl⟩,.inr ⟨25,_,rfl,rfl,(oren_fix (S:=fun _=>False) (fun i hi=>hi.elim) (o := .row 4 x.n.S.length ((nowL x.n.S s2.m).flatMap Syn.cells) 55) (scs_syns _ _)).symm,rfl⟩,.inr ⟨0,_,rfl,rfl,rfl,rfl⟩,.inl ⟨rfl,fun q hq=>by simp at hq; subst hq; exact (show 11≠12 by decide)⟩,.inl ⟨rfl,fun q hq=>by simp at hq; subst hq; exact (show 11≠13 by decide)⟩,.inl ⟨rfl,fun q hq=>by simp at hq; subst hq; exact (show 11≠14 by decide)⟩,.inl ⟨rfl,fun q hq=>by simp at hq; subst hq; exact (show 11≠15 by decide)⟩,.inl ⟨rfl,fun q hq=>by simp at hq; subst hq; exact (show 11≠16 by decide)⟩,.inl ⟨rfl,fun q hq=>by simp at hq; subst hq; exact (show 11≠17 by decide)⟩,.inl ⟨rfl,fun q hq=>by simp at hq; subst hq; exact (show 11≠18 by decide)⟩,.inl ⟨rfl,fun q hq=>by simp at hq; subst hq; exact (show 11≠19 by decide)⟩,.inl ⟨rfl,fun q hq=>by simp at hq; subst hq; exact (show 11≠20 by decide)⟩,.inl ⟨rfl,fun q hq=>by simp at hq; subst hq; exact (show 11≠21 by decide)⟩,.inl ⟨rfl,fun q hq=>by simp at hq; subst hq; exact (show 11≠22 by decide)⟩,.inl ⟨rfl,fun q hq=>by simp at hq; subst hq; exact (show 11≠23 by decide)⟩,.inl ⟨rfl,fun q hq=>by simp at hq; subst hq; exact (show 11≠24 by decide)⟩,.inl ⟨rfl,fun q hq=>by simp at hq; subst hq; exact (show 11≠25 by decide)⟩,.inl ⟨rfl,fun q hq=>by simp at hq; subst hq; exact (show 11≠26 by decide)⟩,.inl ⟨rfl,fun q hq=>by simp at hq; subst hq; exact (show 11≠27 by decide)⟩,.inl ⟨rfl,fun q hq=>by simp at hq; subst hq; exact (show 11≠28 by decide)⟩,.inl ⟨rfl,fun q hq=>by simp at hq; subst hq; exact (show 11≠29 by decide)⟩,.inl ⟨rfl,fun q hq=>by simp at hq; subst hq; exact (show 11≠30 by decide)⟩,.inl ⟨rfl,fun q hq=>by simp at hq; subst hq; exact (show 11≠31 by decide)⟩,.inl ⟨rfl,fun q hq=>by simp at hq; subst hq; exact (show 11≠32 by decide)⟩,.inl ⟨rfl,fun q hq=>by simp at hq; subst hq; exact (show 11≠33 by decide)⟩,.inl ⟨rfl,fun q hq=>by simp at hq; subst hq; exact (show 11≠34 by decide)⟩,.inl ⟨rfl,fun q hq=>by simp at hq; subst hq; exact (show 11≠39 by decide)⟩,.inl ⟨rfl,fun q hq=>by simp at hq; subst hq; exact (show 11≠35 by decide)⟩,.inl ⟨rfl,fun q hq=>by simp at hq; subst hq; exact (show 11≠7 by decide)⟩,.inl ⟨rfl,fun q hq=>by simp at hq; subst hq; exact (show 11≠8 by decide)⟩,.inl ⟨rfl,fun q hq=>by simp at hq; subst hq; exact (show 11≠9 by decide)⟩,.inl ⟨rfl,fun q hq=>by simp at hq; subst hq; exact (show 11≠10 by decide)⟩,.inl ⟨rfl,fun q hq=>by simp at hq; subst hq; exact (show 11≠6 by decide)⟩,.inl ⟨rfl,fun q hq=>by simp at hq; subst hq; exact (show 11≠0 by decide)⟩,.inl ⟨rfl,fun q hq=>by simp at hq; subst hq; exact (show 11≠1 by decide)⟩,.inl ⟨rfl,fun q hq=>by simp at hq; subst hq; exact (show 11≠2 by decide)⟩,.inl ⟨rfl,fun q hq=>by simp at hq; subst hq; exact (show 11≠3 by decide)⟩,.inl ⟨rfl,fun q hq=>by simp at hq; subst hq; exact (show 11≠4 by decide)⟩,.inl ⟨rfl,fun q hq=>by simp at hq; subst hq; exact (show 11≠5 by decide)⟩,trivial⟩ ?_
  refine Run.of_wpK (hc w [] none (fun _ h=>by cases h)) 1000 _ ?_
  conv=>whnf
  refine Run.callE (g:=29) (vs:=[.agg [.opq 0,ii x.n.inp,.opq 1,.opq 2,.opq 3,.opq 4,.opq 5,ii (KN:Int)],.agg [.opq 40,ii x.n.inp,.opq 41]]) (caps:=[]) (.v (.bool true)) (fun ρ w1 hW=>by
   have q8:=hW.rowsAtR (i:=40) rfl (by decide)
   have q9:=hW.rowsAtR (i:=41) rfl (by decide)
   rw [concs_v] at q8
   rw [syns_v,concs_v] at q9
   exact kept_run w1 x s2 hx hinv2 hkp2 _ _ _ _ _ _ _ _ l p _ ⟨hW.rowsAt (i:=0) rfl,hW.rowsAt (i:=1) rfl⟩ (hW.rowsAt (i:=2) rfl) (hW.rowsAt (i:=3) rfl) (hW.rowsAt (i:=4) rfl) (hW.rowsAt (i:=5) rfl) q8 q9) (ent _ _ Try.func29 (by kernel_rfl) rfl) rfl rfl rfl rfl rfl rfl rfl trivial ?_
  refine Run.of_wpK (hc w [] none (fun _ h=>by cases h)) 1000 _ ?_
  conv=>whnf
  refine Run.trim (T':=[(1,.ptr 6 0),(3,.opq 7),(4,.ptr 10 0),(6,.ptr 11 0),(8,.opq 35),(9,ii ((i:Nat):Int)),(12,.opq 39),(16,ii ((0:Nat):Int))]) (M':=((39,.row 1 o.length (o.map fun x=>ii x) 3)::(11,.cells [ii ((i+1:Nat):Int),.opq 12,ii x.n.inp,.opq 13,.opq 14,.mp 19,.mp 20,.mp 21,.mp 22,.mp 23,.mp 24,.mp 25,.mp 26,.mp 27,.mp 28,.mp 29,.mp 30,.mp 31,.mp 32,.mp 33,.mp 34,.opq 15,.opq 16,.opq 17,.mp 18] 96)::(12,.row 8 x.n.N.length ((x.n.N.flatMap Prm.vals).map .v) 60)::(13,.row 4 x.n.S.length ((x.n.S.flatMap Syn.vals).map .v) 55)::(14,.row 2 x.n.N.length (s2.st.flatMap Ste.cells) 139)::(15,.row 10 x.rs.length ((x.rs.flatMap Rul.vals).map .v) 36)::(16,.row 1 x.pl.length ((ints x.pl).map .v) 3)::(17,.row 4 x.pl.length (s2.m.flatMap Mrk.cells) 84)::(18,.kmap true true x.tot)::(19,.kmap false false (sentE (s2.sm 0)))::(20,.kmap false false (sentE (s2.sm 1)))::(21,.kmap false false (sentE (s2.sm 2)))::(22,.kmap false false (sentE (s2.sm 3)))::(23,.kmap false false (sentE (s2.sm 4)))::(24,.kmap false false (sentE (s2.sm 5)))::(25,.kmap false false (sentE (s2.sm 6)))::(26,.kmap false false (sentE (s2.sm 7)))::(27,.kmap false false (sentE (s2.sm 8)))::(28,.kmap false false (sentE (s2.sm 9)))::(29,.kmap false false (sentE (s2.sm 10)))::(30,.kmap false false (sentE (s2.sm 11)))::(31,.kmap false false (sentE (s2.sm 12)))::(32,.kmap false false (sentE (s2.sm 13)))::(33,.kmap false false (sentE (s2.sm 14)))::(34,.kmap false false (sentE (s2.sm 15)))::(35,.row 2 (O++spk ((i:Nat):Int) (o.take 0)).length ((O++spk ((i:Nat):Int) (o.take 0)).flatMap Evt.cells) 62)::(7,.row 2 (trO x l p KN).length ((trO x l p KN).flatMap Evt.cells) 62)::(8,.row 8 x.n.N.length ((x.n.N.flatMap Prm.vals).map .v) 60)::(9,.row 4 x.n.S.length ((nowL x.n.S (trS x l p KN).m).flatMap Syn.cells) 55)::(10,.cells [.opq 8,ii x.n.inp,.opq 9] 25)::(6,.cells [.opq 0,ii x.n.inp,.opq 1,.opq 2,.opq 3,.opq 4,.opq 5,ii (KN:Int)] 45)::(0,.rwin 8 x.n.N.length (x.n.N.flatMap Prm.vals))::(1,.rwin 4 x.n.S.length (x.n.S.flatMap Syn.vals))::(2,.rwin 10 x.rs.length (x.rs.flatMap Rul.vals))::(3,.rwin 1 x.pl.length (ints x.pl))::(4,.rwin 2 l.length (l.flatMap Evt.vals))::(5,.rwin 3 p.length (p.flatMap Prz.vals))::[])) 40 ⟨⟨rfl,(show 6<40 by decide)⟩,⟨rfl,(show 7<40 by decide)⟩,⟨rfl,(show 10<40 by decide)⟩,⟨rfl,(show 11<40 by decide)⟩,⟨rfl,(show 35<40 by decide)⟩,⟨rfl,trivial⟩,⟨rfl,(show 39<40 by decide)⟩,⟨rfl,trivial⟩,trivial⟩ ⟨⟨rfl,by omega,scs_i _ _⟩,⟨rfl,by omega,by simp [SObj.sc,SV.scs,SV.sc]⟩,⟨rfl,by omega,scs_v _ _⟩,⟨rfl,by omega,scs_v _ _⟩,⟨rfl,by omega,scs_st _ _⟩,⟨rfl,by omega,scs_v _ _⟩,⟨rfl,by omega,scs_v _ _⟩,⟨rfl,by omega,scs_marks _ _⟩,⟨rfl,by omega,trivial⟩,⟨rfl,by omega,trivial⟩,⟨rfl,by omega,trivial⟩,⟨rfl,by omega,trivial⟩,⟨rfl,by omega,trivial⟩,⟨rfl,by omega,trivial⟩,⟨rfl,by omega,trivial⟩,⟨rfl,by omega,trivial⟩,⟨rfl,by omega,trivial⟩,⟨rfl,by omega,trivial⟩,⟨rfl,by omega,trivial⟩,⟨rfl,by omega,trivial⟩,⟨rfl,by omega,trivial⟩,⟨rfl,by omega,trivial⟩,⟨rfl,by omega,trivial⟩,⟨rfl,by omega,trivial⟩,⟨rfl,by omega,trivial⟩,⟨by rw [show spk ((i:Nat):Int) (o.take 0)=[] from rfl,List.append_nil]; rfl,by omega,scs_evts _ _⟩,⟨rfl,by omega,scs_evts _ _⟩,⟨rfl,by omega,scs_v _ _⟩,⟨rfl,by omega,scs_syns _ _⟩,⟨rfl,by omega,by simp [SObj.sc,SV.scs,SV.sc]⟩,⟨rfl,by omega,by simp [SObj.sc,SV.scs,SV.sc]⟩,⟨rfl,by omega,trivial⟩,⟨rfl,by omega,trivial⟩,⟨rfl,by omega,trivial⟩,⟨rfl,by omega,trivial⟩,⟨rfl,by omega,trivial⟩,⟨rfl,by omega,trivial⟩,trivial⟩ (fun p hp=>by cases hp) ?_
  refine Run.upToJ (T:=fun j=>[(1,.ptr 6 0),(3,.opq 7),(4,.ptr 10 0),(6,.ptr 11 0),(8,.opq 35),(9,ii ((i:Nat):Int)),(12,.opq 39),(16,ii ((j:Nat):Int))]) (M:=fun j=>((39,.row 1 o.length (o.map fun x=>ii x) 3)::(11,.cells [ii ((i+1:Nat):Int),.opq 12,ii x.n.inp,.opq 13,.opq 14,.mp 19,.mp 20,.mp 21,.mp 22,.mp 23,.mp 24,.mp 25,.mp 26,.mp 27,.mp 28,.mp 29,.mp 30,.mp 31,.mp 32,.mp 33,.mp 34,.opq 15,.opq 16,.opq 17,.mp 18] 96)::(12,.row 8 x.n.N.length ((x.n.N.flatMap Prm.vals).map .v) 60)::(13,.row 4 x.n.S.length ((x.n.S.flatMap Syn.vals).map .v) 55)::(14,.row 2 x.n.N.length (s2.st.flatMap Ste.cells) 139)::(15,.row 10 x.rs.length ((x.rs.flatMap Rul.vals).map .v) 36)::(16,.row 1 x.pl.length ((ints x.pl).map .v) 3)::(17,.row 4 x.pl.length (s2.m.flatMap Mrk.cells) 84)::(18,.kmap true true x.tot)::(19,.kmap false false (sentE (s2.sm 0)))::(20,.kmap false false (sentE (s2.sm 1)))::(21,.kmap false false (sentE (s2.sm 2)))::(22,.kmap false false (sentE (s2.sm 3)))::(23,.kmap false false (sentE (s2.sm 4)))::(24,.kmap false false (sentE (s2.sm 5)))::(25,.kmap false false (sentE (s2.sm 6)))::(26,.kmap false false (sentE (s2.sm 7)))::(27,.kmap false false (sentE (s2.sm 8)))::(28,.kmap false false (sentE (s2.sm 9)))::(29,.kmap false false (sentE (s2.sm 10)))::(30,.kmap false false (sentE (s2.sm 11)))::(31,.kmap false false (sentE (s2.sm 12)))::(32,.kmap false false (sentE (s2.sm 13)))::(33,.kmap false false (sentE (s2.sm 14)))::(34,.kmap false false (sentE (s2.sm 15)))::(35,.row 2 (O++spk ((i:Nat):Int) (o.take j)).length ((O++spk ((i:Nat):Int) (o.take j)).flatMap Evt.cells) 62)::(7,.row 2 (trO x l p KN).length ((trO x l p KN).flatMap Evt.cells) 62)::(8,.row 8 x.n.N.length ((x.n.N.flatMap Prm.vals).map .v) 60)::(9,.row 4 x.n.S.length ((nowL x.n.S (trS x l p KN).m).flatMap Syn.cells) 55)::(10,.cells [.opq 8,ii x.n.inp,.opq 9] 25)::(6,.cells [.opq 0,ii x.n.inp,.opq 1,.opq 2,.opq 3,.opq 4,.opq 5,ii (KN:Int)] 45)::(0,.rwin 8 x.n.N.length (x.n.N.flatMap Prm.vals))::(1,.rwin 4 x.n.S.length (x.n.S.flatMap Syn.vals))::(2,.rwin 10 x.rs.length (x.rs.flatMap Rul.vals))::(3,.rwin 1 x.pl.length (ints x.pl))::(4,.rwin 2 l.length (l.flatMap Evt.vals))::(5,.rwin 3 p.length (p.flatMap Prz.vals))::[])) (fun _=>True) o.length trivial ?_ ?_
  ·intro j hj _ ih2
   have hol2:(O++spk ((i:Nat):Int) (o.take j)).length≤131072:=by
    simp only [spk,List.length_append,List.length_map,List.length_take]
    omega
   refine Run.of_wpK (hc w [] none (fun _ h=>by cases h)) 1000 _ ?_
   conv=>whnf
   rw [decide_eq_true (show ((j:Nat):Int)<(o.length:Int) by omega)]
   conv=>whnf
   refine ⟨by omega,?_⟩
   conv=>whnf
   rw [opF_loadRow1 j rfl rfl rfl rfl (by rw [idx_nat,Nat.mul_one]) hj]
   conv=>whnf
   refine ⟨by omega,?_⟩
   conv=>whnf
   refine Run.trimQ (T':=[(1,.ptr 6 0),(3,.opq 7),(4,.ptr 10 0),(6,.ptr 11 0),(8,.opq 35),(9,ii ((i:Nat):Int)),(12,.opq 39),(16,ii (((j+1):Nat):Int))]) (M':=((39,.row 1 o.length (o.map fun x=>ii x) 3)::(11,.cells [ii ((i+1:Nat):Int),.opq 12,ii x.n.inp,.opq 13,.opq 14,.mp 19,.mp 20,.mp 21,.mp 22,.mp 23,.mp 24,.mp 25,.mp 26,.mp 27,.mp 28,.mp 29,.mp 30,.mp 31,.mp 32,.mp 33,.mp 34,.opq 15,.opq 16,.opq 17,.mp 18] 96)::(12,.row 8 x.n.N.length ((x.n.N.flatMap Prm.vals).map .v) 60)::(13,.row 4 x.n.S.length ((x.n.S.flatMap Syn.vals).map .v) 55)::(14,.row 2 x.n.N.length (s2.st.flatMap Ste.cells) 139)::(15,.row 10 x.rs.length ((x.rs.flatMap Rul.vals).map .v) 36)::(16,.row 1 x.pl.length ((ints x.pl).map .v) 3)::(17,.row 4 x.pl.length (s2.m.flatMap Mrk.cells) 84)::(18,.kmap true true x.tot)::(19,.kmap false false (sentE (s2.sm 0)))::(20,.kmap false false (sentE (s2.sm 1)))::(21,.kmap false false (sentE (s2.sm 2)))::(22,.kmap false false (sentE (s2.sm 3)))::(23,.kmap false false (sentE (s2.sm 4)))::(24,.kmap false false (sentE (s2.sm 5)))::(25,.kmap false false (sentE (s2.sm 6)))::(26,.kmap false false (sentE (s2.sm 7)))::(27,.kmap false false (sentE (s2.sm 8)))::(28,.kmap false false (sentE (s2.sm 9)))::(29,.kmap false false (sentE (s2.sm 10)))::(30,.kmap false false (sentE (s2.sm 11)))::(31,.kmap false false (sentE (s2.sm 12)))::(32,.kmap false false (sentE (s2.sm 13)))::(33,.kmap false false (sentE (s2.sm 14)))::(34,.kmap false false (sentE (s2.sm 15)))::(35,.row 2 (O++spk ((i:Nat):Int) (o.take (j+1))).length ((O++spk ((i:Nat):Int) (o.take (j+1))).flatMap Evt.cells) 62)::(7,.row 2 (trO x l p KN).length ((trO x l p KN).flatMap Evt.cells) 62)::(8,.row 8 x.n.N.length ((x.n.N.flatMap Prm.vals).map .v) 60)::(9,.row 4 x.n.S.length ((nowL x.n.S (trS x l p KN).m).flatMap Syn.cells) 55)::(10,.cells [.opq 8,ii x.n.inp,.opq 9] 25)::(6,.cells [.opq 0,ii x.n.inp,.opq 1,.opq 2,.opq 3,.opq 4,.opq 5,ii (KN:Int)] 45)::(0,.rwin 8 x.n.N.length (x.n.N.flatMap Prm.vals))::(1,.rwin 4 x.n.S.length (x.n.S.flatMap Syn.vals))::(2,.rwin 10 x.rs.length (x.rs.flatMap Rul.vals))::(3,.rwin 1 x.pl.length (ints x.pl))::(4,.rwin 2 l.length (l.flatMap Evt.vals))::(5,.rwin 3 p.length (p.flatMap Prz.vals))::[])) (rq [(35,41),(41,35)]) 40 ?_ ?_ ?_ ?_ (ih2 trivial)
   ·intro i hi j hj hne he
    have inv : ∀ i,i<40→rq [(35,41),(41,35)] (rq [(35,41),(41,35)] i)=i:=by decide
    exact hne (by rw [← inv i hi,he,inv j hj])
   ·exact ⟨⟨rfl,(show 6<40 by decide)⟩,⟨rfl,(show 7<40 by decide)⟩,⟨rfl,(show 10<40 by decide)⟩,⟨rfl,(show 11<40 by decide)⟩,⟨rfl,(show 35<40 by decide)⟩,⟨rfl,trivial⟩,⟨rfl,(show 39<40 by decide)⟩,⟨congrArg some (congrArg ii (wrap_succ (by omega))),trivial⟩,trivial⟩
   ·exact ⟨⟨congrArg some (oren_fix (S:=fun _=>False) (fun i hi=>hi.elim) (o := .row 1 o.length (o.map fun x=>ii x) 3) (scs_i _ _)).symm,by omega,scs_i _ _⟩,⟨rfl,by omega,by simp [SObj.sc,SV.scs,SV.sc]⟩,⟨congrArg some (oren_fix (S:=fun _=>False) (fun i hi=>hi.elim) (o := .row 8 x.n.N.length ((x.n.N.flatMap Prm.vals).map .v) 60) (scs_v _ _)).symm,by omega,scs_v _ _⟩,⟨congrArg some (oren_fix (S:=fun _=>False) (fun i hi=>hi.elim) (o := .row 4 x.n.S.length ((x.n.S.flatMap Syn.vals).map .v) 55) (scs_v _ _)).symm,by omega,scs_v _ _⟩,⟨congrArg some (oren_fix (S:=fun _=>False) (fun i hi=>hi.elim) (o := .row 2 x.n.N.length (s2.st.flatMap Ste.cells) 139) (scs_st _ _)).symm,by omega,scs_st _ _⟩,⟨congrArg some (oren_fix (S:=fun _=>False) (fun i hi=>hi.elim) (o := .row 10 x.rs.length ((x.rs.flatMap Rul.vals).map .v) 36) (scs_v _ _)).symm,by omega,scs_v _ _⟩,⟨congrArg some (oren_fix (S:=fun _=>False) (fun i hi=>hi.elim) (o := .row 1 x.pl.length ((ints x.pl).map .v) 3) (scs_v _ _)).symm,by omega,scs_v _ _⟩,⟨congrArg some (oren_fix (S:=fun _=>False) (fun i hi=>hi.elim) (o := .row 4 x.pl.length (s2.m.flatMap Mrk.cells) 84) (scs_marks _ _)).symm,by omega,scs_marks _ _⟩,⟨rfl,by omega,trivial⟩,⟨rfl,by omega,trivial⟩,⟨rfl,by omega,trivial⟩,⟨rfl,by omega,trivial⟩,⟨rfl,by omega,trivial⟩,⟨rfl,by omega,trivial⟩,⟨rfl,by omega,trivial⟩,⟨rfl,by omega,trivial⟩,⟨rfl,by omega,trivial⟩,⟨rfl,by omega,trivial⟩,⟨rfl,by omega,trivial⟩,⟨rfl,by omega,trivial⟩,⟨rfl,by omega,trivial⟩,⟨rfl,by omega,trivial⟩,⟨rfl,by omega,trivial⟩,⟨rfl,by omega,trivial⟩,⟨rfl,by omega,trivial⟩,⟨by rw [oren_fix (S:=fun _=>False) (fun i hi=>hi.elim) (o := .row 2 (O++spk ((i:Nat):Int) (o.take (j+1))).length ((O++spk ((i:Nat):Int) (o.take (j+1))).flatMap Evt.cells) 62) (scs_evts _ _),spk_take hj,← List.append_assoc]; generalize O++spk _ (o.take j)=Z; rw [List.length_append,List.flatMap_append]; rfl,by omega,scs_evts _ _⟩,⟨congrArg some (oren_fix (S:=fun _=>False) (fun i hi=>hi.elim) (o := .row 2 (trO x l p KN).length ((trO x l p KN).flatMap Evt.cells) 62) (scs_evts _ _)).symm,by omega,scs_evts _ _⟩,⟨congrArg some (oren_fix (S:=fun _=>False) (fun i hi=>hi.elim) (o := .row 8 x.n.N.length ((x.n.N.flatMap Prm.vals).map .v) 60) (scs_v _ _)).symm,by omega,scs_v _ _⟩,⟨congrArg some (oren_fix (S:=fun _=>False) (fun i hi=>hi.elim) (o := .row 4 x.n.S.length ((nowL x.n.S (trS x l p KN).m).flatMap Syn.cells) 55) (scs_syns _ _)).symm,by omega,scs_syns _ _⟩,⟨rfl,by omega,by simp [SObj.sc,SV.scs,SV.sc]⟩,⟨rfl,by omega,by simp [SObj.sc,SV.scs,SV.sc]⟩,⟨rfl,by omega,trivial⟩,⟨rfl,by omega,trivial⟩,⟨rfl,by omega,trivial⟩,⟨rfl,by omega,trivial⟩,⟨rfl,by omega,trivial⟩,⟨rfl,by omega,trivial⟩,trivial⟩
   ·intro p hp; cases hp
  ·intro _
   refine Run.of_wpK (hc w [] none (fun _ h=>by cases h)) 1000 _ ?_
   conv=>whnf
   rw [decide_eq_false (show ¬ ((o.length:Nat):Int)<(o.length:Int) by omega)]
   conv=>whnf
   rw [hs3,hO3] at ih
   exact Run.trim (T':=[(1,.ptr 6 0),(3,.opq 7),(4,.ptr 10 0),(6,.ptr 11 0),(8,.opq 35),(9,ii ((i+1:Nat):Int))]) (M':=((35,.row 2 (O++spk ((i:Nat):Int) (o.take o.length)).length ((O++spk ((i:Nat):Int) (o.take o.length)).flatMap Evt.cells) 62)::(11,.cells [ii ((i+1:Nat):Int),.opq 12,ii x.n.inp,.opq 13,.opq 14,.mp 19,.mp 20,.mp 21,.mp 22,.mp 23,.mp 24,.mp 25,.mp 26,.mp 27,.mp 28,.mp 29,.mp 30,.mp 31,.mp 32,.mp 33,.mp 34,.opq 15,.opq 16,.opq 17,.mp 18] 96)::(12,.row 8 x.n.N.length ((x.n.N.flatMap Prm.vals).map .v) 60)::(13,.row 4 x.n.S.length ((x.n.S.flatMap Syn.vals).map .v) 55)::(14,.row 2 x.n.N.length (s2.st.flatMap Ste.cells) 139)::(15,.row 10 x.rs.length ((x.rs.flatMap Rul.vals).map .v) 36)::(16,.row 1 x.pl.length ((ints x.pl).map .v) 3)::(17,.row 4 x.pl.length (s2.m.flatMap Mrk.cells) 84)::(18,.kmap true true x.tot)::(19,.kmap false false (sentE (s2.sm 0)))::(20,.kmap false false (sentE (s2.sm 1)))::(21,.kmap false false (sentE (s2.sm 2)))::(22,.kmap false false (sentE (s2.sm 3)))::(23,.kmap false false (sentE (s2.sm 4)))::(24,.kmap false false (sentE (s2.sm 5)))::(25,.kmap false false (sentE (s2.sm 6)))::(26,.kmap false false (sentE (s2.sm 7)))::(27,.kmap false false (sentE (s2.sm 8)))::(28,.kmap false false (sentE (s2.sm 9)))::(29,.kmap false false (sentE (s2.sm 10)))::(30,.kmap false false (sentE (s2.sm 11)))::(31,.kmap false false (sentE (s2.sm 12)))::(32,.kmap false false (sentE (s2.sm 13)))::(33,.kmap false false (sentE (s2.sm 14)))::(34,.kmap false false (sentE (s2.sm 15)))::(7,.row 2 (trO x l p KN).length ((trO x l p KN).flatMap Evt.cells) 62)::(8,.row 8 x.n.N.length ((x.n.N.flatMap Prm.vals).map .v) 60)::(9,.row 4 x.n.S.length ((nowL x.n.S (trS x l p KN).m).flatMap Syn.cells) 55)::(10,.cells [.opq 8,ii x.n.inp,.opq 9] 25)::(6,.cells [.opq 0,ii x.n.inp,.opq 1,.opq 2,.opq 3,.opq 4,.opq 5,ii (KN:Int)] 45)::(0,.rwin 8 x.n.N.length (x.n.N.flatMap Prm.vals))::(1,.rwin 4 x.n.S.length (x.n.S.flatMap Syn.vals))::(2,.rwin 10 x.rs.length (x.rs.flatMap Rul.vals))::(3,.rwin 1 x.pl.length (ints x.pl))::(4,.rwin 2 l.length (l.flatMap Evt.vals))::(5,.rwin 3 p.length (p.flatMap Prz.vals))::[])) 36 ⟨⟨rfl,(show 6<36 by decide)⟩,⟨rfl,(show 7<36 by decide)⟩,⟨rfl,(show 10<36 by decide)⟩,⟨rfl,(show 11<36 by decide)⟩,⟨rfl,(show 35<36 by decide)⟩,⟨congrArg some (congrArg ii (wrap_succ (by omega))),trivial⟩,trivial⟩ ⟨⟨rfl,by omega,scs_evts _ _⟩,⟨rfl,by omega,by simp [SObj.sc,SV.scs,SV.sc]⟩,⟨rfl,by omega,scs_v _ _⟩,⟨rfl,by omega,scs_v _ _⟩,⟨rfl,by omega,scs_st _ _⟩,⟨rfl,by omega,scs_v _ _⟩,⟨rfl,by omega,scs_v _ _⟩,⟨rfl,by omega,scs_marks _ _⟩,⟨rfl,by omega,trivial⟩,⟨rfl,by omega,trivial⟩,⟨rfl,by omega,trivial⟩,⟨rfl,by omega,trivial⟩,⟨rfl,by omega,trivial⟩,⟨rfl,by omega,trivial⟩,⟨rfl,by omega,trivial⟩,⟨rfl,by omega,trivial⟩,⟨rfl,by omega,trivial⟩,⟨rfl,by omega,trivial⟩,⟨rfl,by omega,trivial⟩,⟨rfl,by omega,trivial⟩,⟨rfl,by omega,trivial⟩,⟨rfl,by omega,trivial⟩,⟨rfl,by omega,trivial⟩,⟨rfl,by omega,trivial⟩,⟨rfl,by omega,trivial⟩,⟨rfl,by omega,scs_evts _ _⟩,⟨rfl,by omega,scs_v _ _⟩,⟨rfl,by omega,scs_syns _ _⟩,⟨rfl,by omega,by simp [SObj.sc,SV.scs,SV.sc]⟩,⟨rfl,by omega,by simp [SObj.sc,SV.scs,SV.sc]⟩,⟨rfl,by omega,trivial⟩,⟨rfl,by omega,trivial⟩,⟨rfl,by omega,trivial⟩,⟨rfl,by omega,trivial⟩,⟨rfl,by omega,trivial⟩,⟨rfl,by omega,trivial⟩,trivial⟩ (fun p hp=>by cases hp) (ih trivial)
 ·intro hJ
  refine Run.of_wpK (hc w [] none (fun _ h=>by cases h)) 1000 _ ?_
  conv=>whnf
  rw [decide_eq_false (show ¬ ((KN:Nat):Int)<(KN:Int) by omega)]
  conv=>whnf
  obtain ⟨sK,hsK⟩ : ∃ sK,trS x l p KN=sK:=⟨_,rfl⟩
  have hinv:LInv x sK:=by rw [← hsK]; exact trS_inv hx l p KN (by omega)
  have hkpK:Kept x sK:=by rw [← hsK]; exact trS_kept hx l p KN (by omega)
  rw [hsK]
  have hmK:sK.m.length=x.pl.length:=by rw [hinv.lm,hx4]
  have hnet:=Net_spec (ii ((KN:Nat):Int)) x.n.inp (fun k => .mp (8+k)) x.n.N x.n.S sK.st sK.m (by simp [lcells,SV.scs,SV.sc]) (by rw [hmK,hx4]) hx2 hx1 hxN
  unfold nowM at hnet
  rw [hmK] at hnet
  refine Run.callR (vs:=[.ptr 0 0]) (caps:=[]) (caps2:=[]) hnet (ent _ _ Try.func28 (by kernel_rfl) rfl) rfl rfl rfl rfl rfl rfl [.ptr 11 0] rfl (fun q=>11+q) rfl (fun q hq=>by have inv : ∀ q,q<24→(fun q=>11+q) q<36:=(by decide); exact inv q hq) (fun q hq j hj hne=>by have inj : ∀ i,i<24 → ∀ j,j<24→i≠j→(fun q=>11+q) i≠(fun q=>11+q) j:=(by decide); exact inj q hq j hj hne) (by decide)
   ⟨⟨by omega,by simp [lcells,SObj.sc,SV.scs,SV.sc],⟨_,rfl,Conv.refl _⟩,.inr (by simp),fun h=>by cases h⟩,⟨by omega,trivial,⟨_,rfl,Conv.row (by decide) rfl⟩,.inl rfl,fun _=>by simp⟩,⟨by omega,trivial,⟨_,rfl,Conv.row (by decide) rfl⟩,.inl rfl,fun _=>by simp⟩,⟨by omega,trivial,⟨_,rfl,Conv.row (by decide) (marks_v _)⟩,.inl rfl,fun _=>by simp⟩,⟨by omega,trivial,⟨_,rfl,Conv.row (by decide) (steV _)⟩,.inl rfl,fun _=>by simp⟩,trivial⟩ (fun q hq=>by simp at hq; subst hq; exact ⟨by omega,_,rfl⟩) (.tup [.agg [.opq 36,ii x.n.inp,.opq 37],ii 0]) ((36,.row 8 x.n.N.length ((x.n.N.flatMap Prm.vals).map .v) 60)::(37,.row 4 x.n.S.length ((nowL x.n.S sK.m).flatMap Syn.cells) 55)::(11,.cells [ii ((KN:Nat):Int),.opq 12,ii x.n.inp,.opq 13,.opq 14,.mp 19,.mp 20,.mp 21,.mp 22,.mp 23,.mp 24,.mp 25,.mp 26,.mp 27,.mp 28,.mp 29,.mp 30,.mp 31,.mp 32,.mp 33,.mp 34,.opq 15,.opq 16,.opq 17,.mp 18] 96)::(12,.row 8 x.n.N.length ((x.n.N.flatMap Prm.vals).map .v) 60)::(13,.row 4 x.n.S.length ((x.n.S.flatMap Syn.vals).map .v) 55)::(14,.row 2 x.n.N.length (sK.st.flatMap Ste.cells) 139)::(15,.row 10 x.rs.length ((x.rs.flatMap Rul.vals).map .v) 36)::(16,.row 1 x.pl.length ((ints x.pl).map .v) 3)::(17,.row 4 x.pl.length (sK.m.flatMap Mrk.cells) 84)::(18,.kmap true true x.tot)::(19,.kmap false false (sentE (sK.sm 0)))::(20,.kmap false false (sentE (sK.sm 1)))::(21,.kmap false false (sentE (sK.sm 2)))::(22,.kmap false false (sentE (sK.sm 3)))::(23,.kmap false false (sentE (sK.sm 4)))::(24,.kmap false false (sentE (sK.sm 5)))::(25,.kmap false false (sentE (sK.sm 6)))::(26,.kmap false false (sentE (sK.sm 7)))::(27,.kmap false false (sentE (sK.sm 8)))::(28,.kmap false false (sentE (sK.sm 9)))::(29,.kmap false false (sentE (sK.sm 10)))::(30,.kmap false false (sentE (sK.sm 11)))::(31,.kmap false false (sentE (sK.sm 12)))::(32,.kmap false false (sentE (sK.sm 13)))::(33,.kmap false false (sentE (sK.sm 14)))::(34,.kmap false false (sentE (sK.sm 15)))::(35,.row 2 (trO x l p KN).length ((trO x l p KN).flatMap Evt.cells) 62)::(7,.row 2 (trO x l p KN).length ((trO x l p KN).flatMap Evt.cells) 62)::(8,.row 8 x.n.N.length ((x.n.N.flatMap Prm.vals).map .v) 60)::(9,.row 4 x.n.S.length ((nowL x.n.S sK.m).flatMap Syn.cells) 55)::(10,.cells [.opq 8,ii x.n.inp,.opq 9] 25)::(6,.cells [.opq 0,ii x.n.inp,.opq 1,.opq 2,.opq 3,.opq 4,.opq 5,ii (KN:Int)] 45)::(0,.rwin 8 x.n.N.length (x.n.N.flatMap Prm.vals))::(1,.rwin 4 x.n.S.length (x.n.S.flatMap Syn.vals))::(2,.rwin 10 x.rs.length (x.rs.flatMap Rul.vals))::(3,.rwin 1 x.pl.length (ints x.pl))::(4,.rwin 2 l.length (l.flatMap Evt.vals))::(5,.rwin 3 p.length (p.flatMap Prz.vals))::[]) 38 rfl rfl
   ⟨.inr ⟨24,_,rfl,rfl,(oren_fix (S:=fun _=>False) (fun i hi=>hi.elim) (o := .row 8 x.n.N.length ((x.n.N.flatMap Prm.vals).map .v) 60) (scs_v _ _)).symm,rfl⟩,.inr ⟨25,_,rfl,rfl,(oren_fix (S:=fun _=>False) (fun i hi=>hi.elim) (o := .row 4 x.n.S.length ((nowL x.n.S sK.m).flatMap Syn.cells) 55) (scs_syns _ _)).symm,rfl⟩,.inr ⟨0,_,rfl,rfl,rfl,rfl⟩,.inl ⟨rfl,fun q hq=>by simp at hq; subst hq; exact (show 11≠12 by decide)⟩,.inl ⟨rfl,fun q hq=>by simp at hq; subst hq; exact (show 11≠13 by decide)⟩,.inl ⟨rfl,fun q hq=>by simp at hq; subst hq; exact (show 11≠14 by decide)⟩,.inl ⟨rfl,fun q hq=>by simp at hq; subst hq; exact (show 11≠15 by decide)⟩,.inl ⟨rfl,fun q hq=>by simp at hq; subst hq; exact (show 11≠16 by decide)⟩,.inl ⟨rfl,fun q hq=>by simp at hq; subst hq; exact (show 11≠17 by decide)⟩,.inl ⟨rfl,fun q hq=>by simp at hq; subst hq; exact (show 11≠18 by decide)⟩,.inl ⟨rfl,fun q hq=>by simp at hq; subst hq; exact (show 11≠19 by decide)⟩,.inl ⟨rfl,fun q hq=>by simp at hq; subst hq; exact (show 11≠20 by decide)⟩,.inl ⟨rfl,fun q hq=>by simp at hq; subst hq; exact (show 11≠21 by decide)⟩,.inl ⟨rfl,fun q hq=>by simp at hq; subst hq; exact (show 11≠22 by decide)⟩,.inl ⟨rfl,fun q hq=>by simp at hq; subst hq; exact (show 11≠23 by decide)⟩,.inl ⟨rfl,fun q hq=>by simp at hq; subst hq; exact (show 11≠24 by decide)⟩,.inl ⟨rfl,fun q hq=>by simp at hq; subst hq; exact (show 11≠25 by decide)⟩,.inl ⟨rfl,fun q hq=>by simp at hq; subst hq; exact (show 11≠26 by decide)⟩,.inl ⟨rfl,fun q hq=>by simp at hq; subst hq; exact (show 11≠27 by decide)⟩,.inl ⟨rfl,fun q hq=>by simp at hq; subst hq; exact (show 11≠28 by decide)⟩,.inl ⟨rfl,fun q hq=>by simp at hq; subst hq; exact (show 11≠29 by decide)⟩,.inl ⟨rfl,fun q hq=>by simp at hq; subst hq; exact (show 11≠30 by decide)⟩,.inl ⟨rfl,fun q hq=>by simp at hq; subst hq; exact (show 11≠31 by decide)⟩,.inl ⟨rfl,fun q hq=>by simp at hq; subst hq; exact (show 11≠32 by decide)⟩,.inl ⟨rfl,fun q hq=>by simp at hq; subst hq; exact (show 11≠33 by decide)⟩,.inl ⟨rfl,fun q hq=>by simp at hq; subst hq; exact (show 11≠34 by decide)⟩,.inl ⟨rfl,fun q hq=>by simp at hq; subst hq; exact (show 11≠35 by decide)⟩,.inl ⟨rfl,fun q hq=>by simp at hq; subst hq; exact (show 11≠7 by decide)⟩,.inl ⟨rfl,fun q hq=>by simp at hq; subst hq; exact (show 11≠8 by decide)⟩,.inl ⟨rfl,fun q hq=>by simp at hq; subst hq; exact (show 11≠9 by decide)⟩,.inl ⟨rfl,fun q hq=>by simp at hq; subst hq; exact (show 11≠10 by decide)⟩,.inl ⟨rfl,fun q hq=>by simp at hq; subst hq; exact (show 11≠6 by decide)⟩,.inl ⟨rfl,fun q hq=>by simp at hq; subst hq; exact (show 11≠0 by decide)⟩,.inl ⟨rfl,fun q hq=>by simp at hq; subst hq; exact (show 11≠1 by decide)⟩,.inl ⟨rfl,fun q hq=>by simp at hq; subst hq; exact (show 11≠2 by decide)⟩,.inl ⟨rfl,fun q hq=>by simp at hq; subst hq; exact (show 11≠3 by decide)⟩,.inl ⟨rfl,fun q hq=>by simp at hq; subst hq; exact (show 11≠4 by decide)⟩,.inl ⟨rfl,fun q hq=>by simp at hq; subst hq; exact (show 11≠5 by decide)⟩,trivial⟩ ?_
  refine Run.of_wpK (hc w [] none (fun _ h=>by cases h)) 1000 _ ?_
  conv=>whnf
  refine Run.callE (g:=22) (vs:=[.opq 35,.opq 7]) (caps:=[]) (.v (.bool true)) (fun ρ w1 hW=>by
   have q1:=hW.rowsAtR (i:=35) rfl (by decide)
   have q2:=hW.rowsAtR (i:=7) rfl (by decide)
   rw [evts_v,concs_v] at q1 q2
   have hl2:(trO x l p KN).length≤1000000:=Nat.le_trans (trO_len x l p KN) (Nat.le_trans hKN (by decide))
   have:=same_run _ _ (trO x l p KN) (trO x l p KN) w1 q1 q2 hl2
   rw [decide_eq_true rfl] at this
   exact this) (ent _ _ Try.func22 (by kernel_rfl) rfl) rfl rfl rfl rfl rfl rfl rfl trivial ?_
  refine Run.of_wpK (hc w [] none (fun _ h=>by cases h)) 1000 _ ?_
  conv=>whnf
  refine Run.callE (g:=29) (vs:=[.agg [.opq 0,ii x.n.inp,.opq 1,.opq 2,.opq 3,.opq 4,.opq 5,ii (KN:Int)],.agg [.opq 8,ii x.n.inp,.opq 9]]) (caps:=[]) (.v (.bool true)) (fun ρ w1 hW=>by
   have q8:=hW.rowsAtR (i:=8) rfl (by decide)
   have q9:=hW.rowsAtR (i:=9) rfl (by decide)
   rw [concs_v] at q8
   rw [syns_v,concs_v] at q9
   exact kept_run w1 x sK hx hinv hkpK _ _ _ _ _ _ _ _ l p _ ⟨hW.rowsAt (i:=0) rfl,hW.rowsAt (i:=1) rfl⟩ (hW.rowsAt (i:=2) rfl) (hW.rowsAt (i:=3) rfl) (hW.rowsAt (i:=4) rfl) (hW.rowsAt (i:=5) rfl) q8 q9) (ent _ _ Try.func29 (by kernel_rfl) rfl) rfl rfl rfl rfl rfl rfl rfl trivial ?_
  refine Run.of_wpK (hc w [] none (fun _ h=>by cases h)) 1000 _ ?_
  conv=>whnf
  have hLl:=now_len x sK
  obtain ⟨L,hL⟩ : ∃ L,nowL x.n.S sK.m=L:=⟨_,rfl⟩
  rw [hL] at hLl ⊢
  refine Run.trim (T':=[(4,.ptr 10 0),(17,.ptr 38 0),(18,ii (((0:Nat):Nat):Int))]) (M':=[(38,.cells [.opq 36,ii x.n.inp,.opq 37] 25),(37,.row 4 x.n.S.length (L.flatMap Syn.cells) 55),(9,.row 4 x.n.S.length (L.flatMap Syn.cells) 55),(10,.cells [.opq 8,ii x.n.inp,.opq 9] 25)]) 39 ⟨⟨rfl,(show 10<39 by decide)⟩,⟨rfl,(show 38<39 by decide)⟩,⟨rfl,trivial⟩,trivial⟩ ⟨⟨rfl,by omega,by simp [SObj.sc,SV.scs,SV.sc]⟩,⟨rfl,by omega,scs_syns _ _⟩,⟨rfl,by omega,scs_syns _ _⟩,⟨rfl,by omega,by simp [SObj.sc,SV.scs,SV.sc]⟩,trivial⟩ (fun p hp=>by cases hp) ?_
  refine Run.upToJ (T:=fun i=>[(4,.ptr 10 0),(17,.ptr 38 0),(18,ii ((i:Nat):Int))]) (M:=fun i=>[(38,.cells [.opq 36,ii x.n.inp,.opq 37] 25),(37,.row 4 x.n.S.length (L.flatMap Syn.cells) 55),(9,.row 4 x.n.S.length (L.flatMap Syn.cells) 55),(10,.cells [.opq 8,ii x.n.inp,.opq 9] 25)]) (fun _=>True) (x.n.S.length) (trivial) ?_ ?_
  ·intro i hi hJ ih
   refine Run.of_wpK (hc w [] none (fun _ h=>by cases h)) 1000 _ ?_
   conv=>whnf
   rw [decide_eq_true (show ((i:Nat):Int)<(x.n.S.length:Int) by omega)]
   conv=>whnf
   have hiL:i<L.length:=by omega
   obtain ⟨y,hy⟩ : ∃ y,L[i]=y:=⟨_,rfl⟩
   refine Run.draw (hc w [] none (fun _ h=>by cases h)) 11 ?_
   rw [show upto 0 11=upto 0 5++(upto 5 5++upto 10 1) from rfl]
   simp only [drawK_app]
   conv=>whnf
   refine ⟨by omega,?_⟩
   conv=>whnf
   rw [opF_loadR (f:=Syn.cells) (l:=L) i rfl rfl rfl rfl rfl Syn.clen (by rw [idx_nat]) hiL]
   conv=>whnf
   refine ⟨by omega,?_⟩
   conv=>whnf
   rw [opF_loadR (f:=Syn.cells) (l:=L) i rfl rfl rfl rfl rfl Syn.clen (by rw [idx_nat]) hiL]
   conv=>whnf
   refine ⟨by kernel_rfl,?_⟩
   refine Run.of_wpK (hc w [] none (fun _ h=>by cases h)) 1000 _ ?_
   conv=>whnf
   rw [hy,show (y.fr==y.fr&&(y.to==y.to&&(y.w==y.w&&(y.d==y.d&&true))))=true by simp]
   conv=>whnf
   exact Run.trim (T':=[(4,.ptr 10 0),(17,.ptr 38 0),(18,ii (((i+1:Nat):Nat):Int))]) (M':=[(38,.cells [.opq 36,ii x.n.inp,.opq 37] 25),(37,.row 4 x.n.S.length (L.flatMap Syn.cells) 55),(9,.row 4 x.n.S.length (L.flatMap Syn.cells) 55),(10,.cells [.opq 8,ii x.n.inp,.opq 9] 25)]) 39 ⟨⟨rfl,(show 10<39 by decide)⟩,⟨rfl,(show 38<39 by decide)⟩,⟨congrArg some (congrArg ii (wrap_succ (by omega))),trivial⟩,trivial⟩ ⟨⟨rfl,by omega,by simp [SObj.sc,SV.scs,SV.sc]⟩,⟨rfl,by omega,scs_syns _ _⟩,⟨rfl,by omega,scs_syns _ _⟩,⟨rfl,by omega,by simp [SObj.sc,SV.scs,SV.sc]⟩,trivial⟩ (fun p hp=>by cases hp) (ih (trivial))
  ·intro hJ
   refine Run.of_wpK (hc w [] none (fun _ h=>by cases h)) 1000 _ ?_
   conv=>whnf
   rw [decide_eq_false (show ¬ ((x.n.S.length:Nat):Int)<(x.n.S.length:Int) by omega)]
   conv=>whnf
   refine Run.callE (g:=14) (vs:=[]) (caps:=[]) (.v (.bool true)) (fun ρ w1 hW=>works_run w1) (ent _ _ Try.func14 (by kernel_rfl) rfl) rfl rfl rfl rfl rfl rfl rfl trivial ?_
   refine Run.of_wpK (hc w [] none (fun _ h=>by cases h)) 1000 _ ?_
   conv=>whnf
   exact ⟨fun ρ w' hW _=>⟨rfl,hW.toExt⟩⟩
end Go.Proofs.Ytnnlpdgnlccbjaa
