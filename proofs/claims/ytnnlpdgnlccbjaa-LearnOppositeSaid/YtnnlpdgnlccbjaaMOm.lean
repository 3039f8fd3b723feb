/-
  Laws of the small executor, and walks of the functions that the statement reaches (part 13 of several, put together out of smaller texts).
  The conditions stand with each law.
-/
import Derived.SizedLaws
import Derived.Test.YtnnlpdgnlccbjaaMOl
namespace Go.Proofs.Ytnnlpdgnlccbjaa
open Go.Sx
open Go.ChangeShapes Go.WideShapes Go.ChangeAt Go.RowKit Go.Deep Go.Joins
set_option maxRecDepth 100000
section
variable {H:Type} {enc:TypeId × Value→H} {W:World} {base b0:Nat} {spare:Nat→Bool} {held:Bool} {r:Reach} {v:Value} {d:DataW H} {pl:List MemPlace}
/-- How long a slice's datum is. -/
def LenD (d:DataW H) (n:Nat):Prop:=(d = .nil∧n=0) ∨ ∃ es sp,d = .slice es sp∧es.length=n
theorem el_rowsD {α : Type} {t e:TypeId} {k:Nat} (vals : α → List Value) (hvl : ∀ a,(vals a).length=k) (hk:0<k) (ht:Try.prog.underlying t=some (.slice e)) (hc:Try.prog.cellsOf e=k)
  (hel : ∀ {n:Nat} {cs:List Value} {y:DataW H × List MemPlace},DataW.trod enc Try.prog W base spare held n e cs=some y → ∃ p : α,cs=vals p) {n:Nat} {cs:List Value} {y:DataW H × List MemPlace} (h:DataW.trod enc Try.prog W base spare held n t cs=some y) :
  ∃ (v:Value) (l:List α),cs=[v]∧RowsAt W v k l.length (l.flatMap vals)∧LenD y.1 l.length:=by
 obtain ⟨v,l,h1,h2,_⟩:=el_rows vals hvl hk ht hc hel h
 refine ⟨v,l,h1,h2,?_⟩
 obtain ⟨_,p,c,hv,_⟩:=h2
 rcases DataW.trod_slice ht h with ⟨g0,g1⟩ | ⟨a,len,cap,elems,rest,m,_,g0,g1,_,_,_,g2,_⟩
 ·refine .inl ⟨by rw [g1],?_⟩
  rw [h1,hv] at g0
  simp only [List.cons.injEq,Value.slice.injEq,and_true] at g0
  exact g0.2.1
 ·refine .inr ⟨_,_,by rw [g1],?_⟩
  rw [h1,hv] at g0
  simp only [List.cons.injEq,Value.slice.injEq,and_true] at g0
  rw [List.length_map,g2]
  exact g0.2.1.symm
theorem el_case {n:Nat} {cs:List Value} {y:DataW H × List MemPlace} (h:DataW.trod enc Try.prog W base spare held n 45 cs=some y) :
  ∃ (vN vS vR vP vE vZ:Value) (x:Net) (rs:List Rul) (p:List Int) (l:List Evt) (z:List Prz) (K:Int),cs=[vN,.int .i64 x.inp,vS,vR,vP,vE,vZ,.int .i64 K]∧IsNet W vN vS x∧RowsAt W vR 10 rs.length (rs.flatMap Rul.vals)∧RowsAt W vP 1 p.length (ints p)∧RowsAt W vE 2 l.length (l.flatMap Evt.vals)∧RowsAt W vZ 3 z.length (z.flatMap Prz.vals) ∧
   ∃ dn dr ds,y.1 = .agg (dn::dr::ds)∧LenD dr rs.length:=by
 obtain ⟨xs,m,_,hx,hlen,hxl,hg⟩:=DataW.trod_struct Try.underlying45 h
 have hC:Try.prog.cellsOf 45=8:=by kernel_rfl
 rw [hC] at hlen
 match cs,hlen with
 | [c0,c1,c2,c3,c4,c5,c6,c7],_ =>
  match xs,hxl with
  | [y0,y1,y2,y3,y4,y5],_ =>
   have h1:Try.prog.cellsOf 3=1:=by kernel_rfl
   have h2:Try.prog.cellsOf 25=3:=by kernel_rfl
   have h3:Try.prog.cellsOf 26=1:=by kernel_rfl
   have h4:Try.prog.cellsOf 27=1:=by kernel_rfl
   have h5:Try.prog.cellsOf 42=1:=by kernel_rfl
   have h6:Try.prog.cellsOf 43=1:=by kernel_rfl
   have g0:DataW.trod enc Try.prog W base spare held m 25 [c0,c1,c2]=some y0:=by simpa [h2] using hg 0 _ rfl
   have g1:DataW.trod enc Try.prog W base spare held m 26 [c3]=some y1:=by simpa [h3] using hg 1 _ rfl
   have g2:DataW.trod enc Try.prog W base spare held m 27 [c4]=some y2:=by simpa [h4] using hg 2 _ rfl
   have g3:DataW.trod enc Try.prog W base spare held m 42 [c5]=some y3:=by simpa [h5] using hg 3 _ rfl
   have g4:DataW.trod enc Try.prog W base spare held m 43 [c6]=some y4:=by simpa [h6] using hg 4 _ rfl
   have g5:DataW.trod enc Try.prog W base spare held m 3 [c7]=some y5:=by simpa [h1] using hg 5 _ rfl
   obtain ⟨vN,vS,x,e0,r0⟩:=el_net g0
   obtain ⟨v1,l1,e1,r1,d1⟩:=el_rowsD Rul.vals Rul.vlen (by decide) Try.underlying26 (by kernel_rfl) el_rul g1
   obtain ⟨v2,l2,e2,r2,_⟩:=el_introw g2
   obtain ⟨v3,l3,e3,r3,_⟩:=el_rows Evt.vals Evt.vlen (by decide) Try.underlying42 (by kernel_rfl) el_evt g3
   obtain ⟨v4,l4,e4,r4,_⟩:=el_rows Prz.vals Prz.vlen (by decide) Try.underlying43 (by kernel_rfl) el_prz g4
   obtain ⟨K,e5⟩:=el_int g5
   simp only [List.cons.injEq,and_true] at e0 e1 e2 e3 e4 e5
   obtain ⟨rfl,rfl,rfl⟩:=e0
   subst e1 e2 e3 e4 e5
   exact ⟨_,_,_,_,_,_,x,l1,l2,l3,l4,K,rfl,r0,r1,r2,r3,r4,y0.1,y1.1,[y2.1,y3.1,y4.1,y5.1],by rw [hx]; rfl,d1⟩
theorem open_case (hv:Value.okWide Try.prog W r b0 45 v) (h:DataW.Trod enc Try.prog W base spare held 45 v d pl) (hw : ∀ n∈DataW.weights Try.prog 45 d,n≤reachBytes) :
  ∃ (vN vS vR vP vE vZ:Value) (x:Net) (rs:List Rul) (p:List Int) (l:List Evt) (z:List Prz) (K:Int),v=caseV vN vS vR vP vE vZ x K∧IsNet W vN vS x∧RowsAt W vR 10 rs.length (rs.flatMap Rul.vals)∧RowsAt W vP 1 p.length (ints p)∧RowsAt W vE 2 l.length (l.flatMap Evt.vals)∧RowsAt W vZ 3 z.length (z.flatMap Prz.vals) ∧
   rs.length*80≤140737488355328:=by
 obtain ⟨cs,rfl,hsz⟩:=okWide_struct Try.underlying45 hv
 obtain ⟨q⟩:=cs
 obtain ⟨fuel,hf⟩:=h
 obtain ⟨vN,vS,vR,vP,vE,vZ,x,rs,p,l,z,K,hp,h1,h2,h3,h4,h5,dn,dr,ds,hd,hl⟩:=el_case hf
 simp [Value.cells] at hp
 subst hp
 refine ⟨vN,vS,vR,vP,vE,vZ,x,rs,p,l,z,K,rfl,h1,h2,h3,h4,h5,?_⟩
 rcases hl with ⟨_,h0⟩ | ⟨es,sp,he,hl⟩
 ·rw [h0]; decide
 ·have hd:d = .agg (dn::dr::ds):=hd
  have hb:Try.prog.bytesOf 36=80:=by kernel_rfl
  have hm:(es.length+sp.length)*Try.prog.bytesOf 36∈DataW.weights Try.prog 45 d:=by
   rw [hd,he]
   simp only [DataW.weights,Try.underlying45,List.map,DataW.weightsEach,Try.underlying26,List.mem_append,List.mem_cons]
   exact .inr (.inl (.inl trivial))
  have:=hw _ hm
  rw [hb,hl] at this
  unfold reachBytes at this
  omega
end
end Go.Proofs.Ytnnlpdgnlccbjaa
namespace Go.Proofs.Ytnnlpdgnlccbjaa
open Go.Sx
set_option maxRecDepth 100000
set_option maxHeartbeats 2000000
theorem pw_of_adj {α : Type} {R : α → α → Prop} (tr : ∀ a b c,R a b→R b c→R a c) : ∀ (l:List α),(∀ i (h:i+1<l.length),R (l[i]'(by omega)) l[i+1])→l.Pairwise R
 | [],_ => .nil
 | [a],_=>List.pairwise_singleton _ _
 | a::b::l,h=>by
  have ih:=pw_of_adj tr (b::l) (fun i hi=>h (i+1) (by simpa using hi))
  have hab:R a b:=h 0 (by simp)
  refine .cons (fun x hx => ?_) ih
  rcases List.mem_cons.1 hx with rfl | hx
  ·exact hab
  ·exact tr _ _ _ hab ((List.pairwise_cons.1 ih).1 x hx)
structure EvsOK (inp:Int) (l:List Evt):Prop where
 t0 : ∀ e∈l,0≤e.tick
 id : ∀ e∈l,0≤e.id∧e.id≤inp-1
 pw:l.Pairwise (fun a b=>a.tick<b.tick∨a.tick=b.tick∧a.id<b.id)
theorem evs_ok {inp:Int} {l:List Evt} (h:evsChk inp 10000 l=0) (h0:0≤inp∧inp≤256):EvsOK inp l:=by
 unfold evsChk at h
 split at h
 ·cases h
 have hz : ∀ i,i<l.length→evAt inp 10000 l i=0:=fun i hi=>by
  have:=firstE_zero h i (by simpa using hi)
  simpa only [List.getElem_range] using this
 have e2:W (inp-1)=inp-1:=W_id (by omega) (by omega)
 have hi1 : ∀ i (hi:i<l.length),0≤l[i].tick∧0≤l[i].id∧l[i].id≤inp-1:=fun i hi=>by
  have:=hz i hi
  unfold evAt at this
  have e:l.getD i evt0=l[i]:=by simp [List.getD_eq_getElem?_getD,hi]
  rw [e,e2] at this
  split at this
  ·cases this
  rename_i hw
  simp only [Bool.not_eq_false,Bool.and_eq_true,wi_iff] at hw
  omega
 refine ⟨fun e he => ?_,fun e he => ?_,pw_of_adj (fun a b c h1 h2=>by omega) l fun i hi => ?_⟩
 ·obtain ⟨i,hi,rfl⟩:=List.getElem_of_mem he; exact (hi1 i hi).1
 ·obtain ⟨i,hi,rfl⟩:=List.getElem_of_mem he; exact (hi1 i hi).2
 ·have:=hz (i+1) hi
  unfold evAt at this
  have ea:l.getD i evt0=l[i]:=by simp [List.getD_eq_getElem?_getD,show i<l.length by omega]
  have eb:l.getD (i+1) evt0=l[i+1]:=by simp [List.getD_eq_getElem?_getD,hi]
  rw [Nat.add_sub_cancel,ea,eb] at this
  split at this
  ·cases this
  split at this
  ·cases this
  ·rename_i h3
   omega
theorem EvsOK.le {inp:Int} {l:List Evt} (h:EvsOK inp l):l.Pairwise (fun a b=>a.tick≤b.tick):=h.pw.imp (by intro a b h; omega)
theorem EvsOK.ins {inp:Int} {l:List Evt} (h:EvsOK inp l) (h0:0≤inp∧inp≤256) (t:Int):insChk inp (atIn l t)=0:=by
 have e2:W (inp-1)=inp-1:=W_id (by omega) (by omega)
 have hm : ∀ a∈atIn l t,0≤a∧a≤inp-1:=fun a ha=>by
  rw [atIn_eq] at ha
  obtain ⟨e,he,rfl⟩:=List.mem_map.1 ha
  exact h.id e (List.mem_filter.1 he).1
 have hp:(atIn l t).Pairwise (· < ·):=by
  rw [atIn_eq,List.pairwise_map]
  have h1:=h.pw.filter (fun e=>e.tick==t)
  refine List.Pairwise.imp_of_mem (fun {a b} ha hb hab => ?_) h1
  have ta:a.tick=t:=by simpa using (List.mem_filter.1 ha).2
  have tb:b.tick=t:=by simpa using (List.mem_filter.1 hb).2
  omega
 unfold insChk
 refine firstN_all fun j hj => ?_
 unfold inAt
 have e:(atIn l t).getD j 0=(atIn l t)[j]:=by simp [List.getD_eq_getElem?_getD,hj]
 have hj1:=hm _ (List.getElem_mem hj)
 rw [e,e2]
 rw [if_neg (by
  rw [Bool.not_eq_false,wi_iff]; exact hj1)]
 by_cases h1:j=0
 ·rw [if_neg (by omega)]
 ·have e3:(atIn l t).getD (j-1) 0=(atIn l t)[j-1]:=by simp [List.getD_eq_getElem?_getD,show j-1<(atIn l t).length by omega]
  rw [e3]
  have:=List.pairwise_iff_getElem.1 hp (j-1) j (by omega) hj (by omega)
  rw [if_neg (by omega)]
structure PzsOK (R:Nat) (l:List Prz):Prop where
 t0 : ∀ e∈l,0≤e.tick
 id : ∀ e∈l,0≤e.id∧e.id<(R:Int)
 val : ∀ e∈l,-128≤e.val∧e.val≤127
 le:l.Pairwise (fun a b=>a.tick≤b.tick)
theorem pzs_ok {R:Nat} {l:List Prz} (h:pzsChk (R:Int) l=0) (hR:R≤16):PzsOK R l:=by
 have h1:=pzs_rule h ⟨by omega,by omega⟩
 unfold pzsChk at h
 split at h
 ·cases h
 have hz : ∀ i,i<l.length→pzAt (R:Int) l i=0:=fun i hi=>by
  have:=firstE_zero h i (by simpa using hi)
  simpa only [List.getElem_range] using this
 refine ⟨fun e he => ?_,fun e he=>⟨(h1 e he).1,(h1 e he).2.1⟩,fun e he=>(h1 e he).2.2,pw_of_adj (R:=fun (a b:Prz)=>a.tick≤b.tick) (fun a b c h1 h2=>Int.le_trans h1 h2) l fun i hi => ?_⟩
 ·obtain ⟨i,hi,rfl⟩:=List.getElem_of_mem he
  have:=hz i hi
  unfold pzAt at this
  have e:l.getD i prz0=l[i]:=by simp [List.getD_eq_getElem?_getD,hi]
  rw [e] at this
  split at this
  ·cases this
  rename_i hw
  simp only [Bool.not_eq_false,Bool.and_eq_true,wi_iff] at hw
  omega
 ·have:=hz (i+1) hi
  unfold pzAt at this
  have ea:l.getD i prz0=l[i]:=by simp [List.getD_eq_getElem?_getD,show i<l.length by omega]
  have eb:l.getD (i+1) prz0=l[i+1]:=by simp [List.getD_eq_getElem?_getD,hi]
  rw [Nat.add_sub_cancel,ea,eb] at this
  split at this
  ·cases this
  split at this
  ·cases this
  ·rename_i h3
   omega
theorem PzsOK.rw {R:Nat} {l:List Prz} (h:PzsOK R l) (t:Int):rwChk R (atRw R l t)=0:=by
 have hm : ∀ a∈atRw R l t,-128≤a∧a≤127:=by
  unfold atRw
  have : ∀ (p:List Prz) (a:List Int),(∀ e∈p,-128≤e.val∧e.val≤127)→(∀ y∈a,-128≤y∧y≤127) → ∀ y∈p.foldl (rwStep t) a,-128≤y∧y≤127:=by
   intro p
   induction p with
   | nil=>intro a _ h; exact h
   | cons e p ih =>
    intro a hv ha
    refine ih _ (fun x hx=>hv x (List.mem_cons_of_mem _ hx)) ?_
    unfold rwStep
    split
    ·intro y hy
     rcases List.mem_or_eq_of_mem_set hy with hy | rfl
     ·exact ha y hy
     ·exact hv e (List.mem_cons_self ..)
    ·exact ha
  refine this l _ h.val fun y hy => ?_
  obtain ⟨_,rfl⟩:=List.mem_replicate.1 hy
  omega
 unfold rwChk
 split
 ·rfl
 rw [atRw_len,if_neg (by simp),rwBad_no hm]
 rfl
theorem rwOf_at {R:Nat} {l:List Int} (h:l.length=R):rwOf R l=l:=by
 unfold rwOf
 split
 ·rename_i h0
  have:l=[]:=List.length_eq_zero_iff.1 (by omega)
  subst this
  obtain rfl:R=0:=by simpa using h.symm
  rfl
 ·rfl
theorem prep_evs {inp:Int} {l:List Evt} {K:Int} (h:prepChk ⟨[prm1],inp,[]⟩ l K 10000=0):evsChk inp 10000 l=0:=by
 unfold prepChk at h
 split at h
 ·rename_i h1; exact absurd h h1
 split at h
 ·cases h
 exact h
theorem w_bounds {x:Lnt} {s:Lst} (hx:NetOK x) (h:LInv x s) {i:Nat} (hi:i∈plIdx x.pl):(x.rul i).lo≤wAt s.m i∧wAt s.m i≤(x.rul i).hi ∧ -255≤wAt s.m i∧wAt s.m i≤255:=by
 have h1:=h.mok i hi
 have h3:=(hx.good hi).bounds
 have h4:=h1.w0
 have h5:=h1.w1
 unfold wAt
 omega
/-- The weight behind step 3. -/
theorem finM_w (r:Rul) (sp ar:Bool) (m:Mrk):(finM r sp ar m).w=max r.lo (min r.hi m.w):=by
 unfold finM
 cases sp <;> cases ar <;> rfl
theorem pMark_kind1 {r:Rul} (h1:r.kind=1) (sp ar:Bool) (a b:Int) (m:Mrk):pMark r sp ar a m=pMark r sp ar b m:=by
 rw [pMark_eq (r:=r) (spike:=sp) (arrived:=ar) (rw0:=a) (m0:=m) rfl rfl (if_pos h1),pMark_eq (r:=r) (spike:=sp) (arrived:=ar) (rw0:=b) (m0:=m) rfl rfl (if_pos h1)]
/-- Without sums to be kept, step 5 does nothing. -/
theorem lR_nosum {x:Lnt} {s:Lst} (hx:NetOK x) (h:LInv x s) (hs : ∀ r∈x.rs,r.sum=false) (rw0:List Int) (i:Nat):(lR x s rw0).getD i mrk0=(lP x s rw0).getD i mrk0:=by
 obtain ⟨_,_,hR⟩:=lR_all hx h rw0
 refine hR.same i (.inr ?_)
 unfold sumOn
 rw [List.getD_eq_getElem?_getD]
 cases hq:x.rs[(x.pl.getD i (-1)).toNat]? with
 | none=>rfl
 | some r=>exact hs r (List.mem_of_getElem? hq)
theorem tdiv_bnd {a k:Int} (h0:0≤k) (h1 : -k≤a) (h2:a≤k) : -k≤a.tdiv 256∧a.tdiv 256≤k:=by
 rcases Int.le_total 0 a with h | h
 ·rw [Int.tdiv_eq_ediv_of_nonneg h]; omega
 ·have:a.tdiv 256 = -((-a) / 256):=by
   rw [← Int.tdiv_eq_ediv_of_nonneg (by omega),Int.neg_tdiv,Int.neg_neg]
  rw [this]; omega
theorem pMark_w2 {r:Rul} (h1:r.kind≠1) (sp ar:Bool) (m:Mrk) (hw : -255≤m.w∧m.w≤255) : ∃ E:Int,-65535≤E∧E≤65535 ∧ ∀ q:Int,-128≤q→q≤128→(pMark r sp ar q m).w=max r.lo (min r.hi (m.w+(q*E).tdiv 256)):=by
 refine ⟨max (-65535) (min 65535 (W ((fadeM r m).e+chgM r (fadeM r m) sp ar))),by omega,by omega,fun q h2 h3 => ?_⟩
 rw [pMark_eq (r:=r) (spike:=sp) (arrived:=ar) (rw0:=q) (m0:=m) rfl rfl (if_neg h1),finM_w]
 show max r.lo (min r.hi (W (m.w+W ((W (q*_)).tdiv 256))))=_
 have hE : -65535≤max (-65535) (min 65535 (W ((fadeM r m).e+chgM r (fadeM r m) sp ar)))∧max (-65535) (min 65535 (W ((fadeM r m).e+chgM r (fadeM r m) sp ar)))≤65535:=by omega
 generalize max (-65535) (min 65535 (W ((fadeM r m).e+chgM r (fadeM r m) sp ar)))=E at hE
 have hb : -8388480≤q*E∧q*E≤8388480:=by
  have h4:q*E≤128*65535 ∧ -(128*65535)≤q*E:=by
   rcases Int.le_total 0 q with hq | hq
   ·constructor
    ·exact Int.le_trans (Int.mul_le_mul_of_nonneg_left hE.2 hq) (Int.mul_le_mul_of_nonneg_right h3 (by decide))
    ·have h5:q*(-65535)≤q*E:=Int.mul_le_mul_of_nonneg_left hE.1 hq
     omega
   ·constructor
    ·have h5:q*E≤q*(-65535):=Int.mul_le_mul_of_nonpos_left hq hE.1
     omega
    ·have h5:q*65535≤q*E:=Int.mul_le_mul_of_nonpos_left hq hE.2
     omega
  omega
 have ht:=tdiv_bnd (k:=8388480) (by decide) hb.1 hb.2
 have e1:W (q*E)=q*E:=W_id (by omega) (by omega)
 have e2:W ((q*E).tdiv 256)=(q*E).tdiv 256:=W_id (by omega) (by omega)
 have e3:W (m.w+(q*E).tdiv 256)=m.w+(q*E).tdiv 256:=W_id (by omega) (by omega)
 rw [e1,e2,e3]
/-- What LearnOpposite says of a synapse: its weights with the rewards q, -q, and 0. -/
theorem opp_w {x:Lnt} {s:Lst} (hx:NetOK x) (h:LInv x s) (hs : ∀ r∈x.rs,r.sum=false) (ins:List Int) (q:Int) (h0:0≤q) (h1:q≤127) (i:Nat) (hi:i<x.pl.length) :
  (x.pl.getD i (-1)<0∨(x.rul i).kind=1→wAt (lN x s ins (List.replicate x.rs.length q)).m i=wAt (lN x s ins (List.replicate x.rs.length 0)).m i∧wAt (lN x s ins (List.replicate x.rs.length (-q))).m i=wAt (lN x s ins (List.replicate x.rs.length 0)).m i) ∧
  (0≤x.pl.getD i (-1)→(x.rul i).kind≠1→wAt (lN x s ins (List.replicate x.rs.length q)).m i=(x.rul i).lo∨wAt (lN x s ins (List.replicate x.rs.length q)).m i=(x.rul i).hi∨wAt (lN x s ins (List.replicate x.rs.length (-q))).m i=(x.rul i).lo∨wAt (lN x s ins (List.replicate x.rs.length (-q))).m i=(x.rul i).hi ∨
   wAt (lN x s ins (List.replicate x.rs.length q)).m i-wAt (lN x s ins (List.replicate x.rs.length 0)).m i=wAt (lN x s ins (List.replicate x.rs.length 0)).m i-wAt (lN x s ins (List.replicate x.rs.length (-q))).m i):=by
 have hw : ∀ rw0:List Int,wAt (lN x s ins rw0).m i=((if i∈plIdx x.pl then pMark (x.rul i) (decide ((x.n.S.getD i syn0).to∈(lB x s).2.2)) ((lA x s).1.getD i false) (rw0.getD (x.pl.getD i (-1)).toNat 0) (s.m.getD i mrk0) else s.m.getD i mrk0)).w:=fun rw0=>by
  unfold wAt
  show ((lR x s rw0).getD i mrk0).w=_
  rw [lR_nosum hx h hs,lP_get hx h]
 by_cases hp:i∈plIdx x.pl
 ·have hpp:=plIdx_iff.1 hp
  have hm:=h.mok i hp
  have hg:=hx.good hp
  have hb:=hg.bounds
  have hw0:=hm.w0
  have hw1:=hm.w1
  have hk:(x.pl.getD i (-1)).toNat<x.rs.length:=by
   have h3:=hx.p1 i hi
   have hg2:x.pl.getD i (-1)=x.pl[i]:=by simp [List.getD_eq_getElem?_getD,hi]
   rw [hg2] at hpp ⊢
   omega
  have hrep : ∀ a:Int,(List.replicate x.rs.length a).getD (x.pl.getD i (-1)).toNat 0=a:=fun a=>by rw [List.getD_eq_getElem?_getD,List.getElem?_replicate,if_pos hk]; rfl
  simp only [hw,if_pos hp,hrep]
  refine ⟨fun hc => ?_,fun _ hk1 => ?_⟩
  ·have hk1:(x.rul i).kind=1:=by
    rcases hc with hc | hc
    ·omega
    ·exact hc
   exact ⟨by rw [pMark_kind1 hk1 _ _ q 0],by rw [pMark_kind1 hk1 _ _ (-q) 0]⟩
  ·obtain ⟨E,hE0,hE1,hE⟩:=pMark_w2 hk1 (decide ((x.n.S.getD i syn0).to∈(lB x s).2.2)) ((lA x s).1.getD i false) (s.m.getD i mrk0) ⟨by omega,by omega⟩
   rw [hE q (by omega) (by omega),hE (-q) (by omega) (by omega),hE 0 (by omega) (by omega)]
   rw [Int.zero_mul,Int.zero_tdiv,Int.neg_mul,Int.neg_tdiv]
   generalize (q*E).tdiv 256=d
   omega
 ·have hpp:x.pl.getD i (-1)<0:=by
   have : ¬ (i<x.pl.length∧0≤x.pl.getD i (-1)):=fun hh=>hp (plIdx_iff.2 hh)
   omega
  simp only [hw,if_neg hp]
  exact ⟨fun _=>⟨trivial,trivial⟩,fun hh=>absurd hpp (by omega)⟩
/-- The weights now. -/
theorem now_get {x:Lnt} {s:Lst} (h:LInv x s) {i:Nat} (hi:i<x.n.S.length):(nowL x.n.S s.m).getD i syn0={ x.n.S.getD i syn0 with w:=wAt s.m i }:=by
 unfold nowL
 rw [nowY_get,if_pos ⟨by rw [h.lm]; exact hi,hi⟩]; rfl
theorem now_len (x:Lnt) (s:Lst):(nowL x.n.S s.m).length=x.n.S.length:=nowY_len ..
end Go.Proofs.Ytnnlpdgnlccbjaa
namespace Go.Sx
/-- 'append([]T{}, s...)'. -/
theorem Run.appendC {c:Cx} (hc:c.ok) {T:List (Nat × SV)} {M:List (Nat × SObj)} {n:Nat} {D:List Deferred} {ops:Array Oper} {i:Nat} {r:List Nat} {k:List Item} {R:Ending→World→Prop} {o:Oper} {x y:Operand} {t:TypeId}
  (ho:get ops.toList i=some o) (hop:o.op = .call { callee := .builtin .append,args := #[x,y],argTypes := #[t,t] }) (hw:wantS ops.toList (look T) o=some true) (hd:okD c.fn.ntmps o.dst=true)
  {j e:Nat} {te:TypeId} (hx:ev (look T) x=some (.slc j 0 0 0)) (hj:look M j=some (.cells [] te))
  {q len:Nat} {vs:List Value} (hy:ev (look T) y=some (.opq q)) (hq : ∀ ρ w,WI c.w0 c.L ρ (look M) (· < n) w→RowsAt w ((SV.opq q).conc ρ) e len vs) (hone' : ∀ u∈vs,u.oneCell'=true)
  {ti tie:TI} {bytes:Nat} (hti:look c.tab t=some ti) (hsh:ti.sh = .slc te e bytes) (hte:look c.tab te=some tie) (hz:tie.zero.length=e) (he:0<e)
  (hfit:len*bytes≤140737488355328∧len<9223372036854775808) (M':List (Nat × SObj)) (hM':AllP (fun p=>look M p.1=some p.2∧p.1≠j) M')
  (h:Run c ⟨putS T o.dst (.opq n),(n,.row e len (vs.map .v) te)::M',n+1,D,.inRegion ops r::k⟩ R):Run c ⟨T,M,n,D,.inRegion ops (i::r)::k⟩ R:=by
 refine ⟨fun ρ a w hi => ?_⟩
 rw [get_eq,Array.getElem?_toList] at ho
 refine TW.op ho (wantS_ok hi.tm hw) ?_
 obtain ⟨h1,_⟩:=ev_ok hi.tm hx
 obtain ⟨h2,_⟩:=ev_ok hi.tm hy
 have hti:=Tab.ok_look hc.tab hti
 have hte:=Tab.ok_look hc.tab hte
 obtain ⟨d,hd1,hd2⟩:=hti.desc
 obtain ⟨inf,rfl,g2,g3,g4⟩:=sh_desc.2.2.2.2.1 te e bytes (hd2.trans hsh)
 obtain ⟨inf',z,i1,_,i3,i4⟩:=hte.infos
 rw [g2] at i1
 obtain rfl:=Option.some.inj i1
 have hzs:z.cells.size=e:=by rw [← hz,← i4]; simp
 obtain ⟨hSj,hscj,h0,hcb⟩:=hi.wi.mem j _ hj
 have hsub : ∀ kk oo,look M' kk=some oo→look M kk=some oo:=fun kk oo hk=>(hM'.mem _ (look_mem hk)).1
 have hown:w.ownsRow 0 te e (.slice (some ⟨ρ.s j,0,none⟩) 0 0) 0 [] :=
  ⟨by simp,.inr ⟨ρ.s j,0,#[],rfl,Nat.zero_le _,hcb,Nat.le_refl _,Nat.zero_le _,by simp,by simp⟩⟩
 have hx1:a.eval x = .slice (some ⟨ρ.s j,0,none⟩) 0 0:=by rw [h1]; simp only [SV.conc,h0,Nat.add_zero]
 obtain ⟨hvl,p,cap,hv,hcap,hp⟩:=hq ρ w hi.wi
 rw [hv] at h2
 have fin : ∀ v' w' row,(execOp a.eval o).run c.P w = .ok (.value v') w'→w'.ownsRow 0 te e v' len vs→w.grownBy w' row→(row=none∨row=some (ρ.s j))→(∀ g,v'.ownBlock=some g→row=some g∨w.heap.size≤g) →
   Oc c.P a o w fun v w'=>TW c.P c.f c.rr (a.put o.dst v) (.inRegion ops r::k) w' R:=by
  intro v' w' row hrun r2 r3 r4 r5
  rw [← concs_v ρ vs] at r2
  obtain ⟨hW',hag⟩:=hi.wi.rowTo hsub (i:=n) (Nat.lt_irrefl n) (xs:=vs.map .v) (t:=te) (e:=e) (n:=len) r3 (fun b hb=>by
   rcases r4 with r4 | r4
   ·rw [r4] at hb; cases hb
   ·rw [r4] at hb
    obtain rfl:=Option.some.inj hb
    exact ⟨fun kk oo hk ck=>hi.wi.dist kk j oo _ (hsub kk oo hk) hj (hM'.mem _ (look_mem hk)).2 ck trivial,hi.wi.new j _ hj trivial⟩) r5 r2 (scs_v _ vs)
  refine Oc.value hrun ?_
  have hW2:WI c.w0 c.L (ρ.bindV n v') (look ((n,.row e len (vs.map .v) te)::M')) (· < n+1) w':=by
   rw [look_upd]; exact hW'.mono fun q hq=>by have hq:q<n∨q=n:=hq; omega
  have hinv:=hi.put (ρ':=ρ.bindV n v') hd hag (Nat.le_succ n) (v := .opq n) (Nat.lt_succ_self n) hW2 (.inRegion ops r::k)
  rw [conc_bindV r2] at hinv
  exact h.go _ _ w' hinv
 cases p with
 | none =>
  have hl0:len=0:=by
   rcases hp with hp | ⟨_,_,hp,_⟩
   ·exact hp
   ·cases hp
  subst hl0
  obtain rfl:vs=[]:=List.length_eq_zero_iff.1 (by simpa using hvl)
  have hrun:(execOp a.eval o).run c.P w = .ok (.value (.slice (some ⟨ρ.s j,0,none⟩) 0 0)) w:=by
   simp [execOp,hop,resolve,invoke,builtin,hx1,h2,run_appendNil w hd1 g2 _ 0 0 cap (Nat.le_refl 0)]
  exact fin _ w (some (ρ.s j)) hrun hown ⟨rfl,rfl,rfl,Nat.le_refl _,fun _ _ _=>rfl⟩ (.inr rfl) (fun g hg => .inl hg)
 | some ad =>
  have hcell : ∀ jj u,vs[jj]? = some u→w.cell? (ad.add jj)=some u:=fun jj u hu=>by
   rcases hp with hp | ⟨blk,off,hp,_,hh⟩
   ·subst hp
    obtain rfl:vs=[]:=List.length_eq_zero_iff.1 (by simpa using hvl)
    cases hu
   ·obtain rfl:=Option.some.inj hp
    rw [addr_add]; exact hh jj u hu
  obtain ⟨v',w',row,r1,r2,r3,r4,r5⟩:=run_append_two (P:=c.P) w t o.type te inf z e hd1 g2 i3 g3 hzs he _ 0 _ hown ad len cap vs hvl hcell hone' (by simp only [maxLen]; omega) (by rw [g4,Nat.zero_add]; exact hfit.1)
  rw [Nat.zero_add,List.nil_append] at r2
  have hrun:(execOp a.eval o).run c.P w = .ok (.value v') w':=by
   simp [execOp,hop,resolve,invoke,builtin,hx1,h2,r1]
  exact fin v' w' row hrun r2 r3 (r4.imp id fun h=>h) r5
end Go.Sx
namespace Go.Proofs.Ytnnlpdgnlccbjaa
open Go.Sx
set_option maxRecDepth 100000
set_option maxHeartbeats 8000000
theorem ruls_v (l:List Rul):l.flatMap Rul.cells=(l.flatMap Rul.vals).map .v:=by
 induction l with
 | nil=>rfl
 | cons a l ih=>rw [List.flatMap_cons,List.flatMap_cons,List.map_append,ih]; rfl
theorem Rul.clen (r:Rul):r.cells.length=10:=rfl
theorem scs_ruls (S:Nat→Prop) (l:List Rul):SV.scs S (l.flatMap Rul.cells):=by rw [ruls_v]; exact scs_v _ _
theorem rwOf_nil (R:Nat):rwOf R []=List.replicate R 0:=rfl
/-- A tick without rewards. -/
theorem Step_ok0 (x:Lnt) (s:Lst) (ins:List Int) (hx:NetOK x) (h:LInv x s) (he:stepChk x s ins []=0) (hin:ins.length<4611686018427387904) :
  BSpec Try.prog 27 [.ptr 0 0,.opq 24,.v (.slice none 0 0)] (lM x (lC x s) s++[(24,.rwin 1 ins.length (ints ins))]) 26 [0,3,6] (.tup [.opq 27,ii 0])
   [(26,.kmap false true (sentE ((lN x s ins (List.replicate x.rs.length 0)).sm (slotN s.tick)))),(27,.row 1 (lOut x s).length ((lOut x s).map fun x=>ii x) 3),(0,.cells (lcells (ii (W (s.tick+1))) x.n.inp (fun j => .mp (if j=slotN s.tick then 26 else 8+j)) (.mp 7)) 96),(3,.row 2 x.n.N.length ((lN x s ins (List.replicate x.rs.length 0)).st.flatMap Ste.cells) 139),(6,.row 4 x.pl.length ((lN x s ins (List.replicate x.rs.length 0)).m.flatMap Mrk.cells) 84)] 28:=by
 have h0:=Step_ok x s ins [] hx h he hin (by decide)
 rw [rwOf_nil] at h0
 have hne : ∀ i,i<25→i≠25:=fun i hi=>by omega
 refine BSpec.nilArg 25 1 h0 (by decide) (fun ρ hρ=>by simp only [SV.concs,SV.conc,hρ]) ⟨(show 0≠25 by decide),(show 24≠25 by decide),trivial,trivial⟩ ?_ ?_ ⟨(show 27≠25 by decide),trivial,trivial⟩ ?_
 ·refine ⟨⟨(show 0≠25 by decide),by simp [lC,lcells,SObj.sc,SV.scs,SV.sc]⟩,⟨(show 1≠25 by decide),trivial⟩,⟨(show 2≠25 by decide),trivial⟩,⟨(show 3≠25 by decide),scs_st _ _⟩,⟨(show 4≠25 by decide),trivial⟩,⟨(show 5≠25 by decide),trivial⟩,⟨(show 6≠25 by decide),scs_marks _ _⟩,⟨(show 7≠25 by decide),trivial⟩,⟨(show 8≠25 by decide),trivial⟩,⟨(show 9≠25 by decide),trivial⟩,⟨(show 10≠25 by decide),trivial⟩,⟨(show 11≠25 by decide),trivial⟩,⟨(show 12≠25 by decide),trivial⟩,⟨(show 13≠25 by decide),trivial⟩,⟨(show 14≠25 by decide),trivial⟩,⟨(show 15≠25 by decide),trivial⟩,⟨(show 16≠25 by decide),trivial⟩,⟨(show 17≠25 by decide),trivial⟩,⟨(show 18≠25 by decide),trivial⟩,⟨(show 19≠25 by decide),trivial⟩,⟨(show 20≠25 by decide),trivial⟩,⟨(show 21≠25 by decide),trivial⟩,⟨(show 22≠25 by decide),trivial⟩,⟨(show 23≠25 by decide),trivial⟩,⟨(show 24≠25 by decide),trivial⟩,trivial⟩
 ·exact ⟨rfl,rfl,rfl,rfl,rfl,rfl,rfl,rfl,rfl,rfl,rfl,rfl,rfl,rfl,rfl,rfl,rfl,rfl,rfl,rfl,rfl,rfl,rfl,rfl,rfl,rfl,trivial⟩
 ·exact ⟨⟨(show 26≠25 by decide),trivial⟩,⟨(show 27≠25 by decide),scs_i _ _⟩,⟨(show 0≠25 by decide),lcells_sc (S:=(· ≠ 25)) (fun i hi=>by show i≠25; omega) _ _ _ _ (by show 26≠25; decide)⟩,⟨(show 3≠25 by decide),scs_st _ _⟩,⟨(show 6≠25 by decide),scs_marks _ _⟩,trivial⟩
theorem atIn_len (l:List Evt) (t:Int):(atIn l t).length≤l.length:=by
 rw [atIn_eq,List.length_map]; exact List.length_filter_le ..
section
variable {tab:Tab} {pf:PF} {T:Tm} {M:Mem} {n:Nat} {t:TypeId} {x y:Operand} {ti:TI} {j e m:Nat} {o:SObj} {vs:List Value}
end
end Go.Proofs.Ytnnlpdgnlccbjaa
namespace Go.Sx
theorem WI.enterA {w0 w:World} {L:List (Nat × Nat)} {ρ:Env} {M:List (Nat × SObj)} {n:Nat} (hW:WI w0 L ρ (look M) (· < n) w) (r:Nat→Nat) (Mc:List (Nat × SObj)) (B:Nat) (is:List Nat) (keys:List Nat) (hkeys:Mc.map (·.1)=keys) (hinj : ∀ i∈keys,∀ j∈keys,i≠j→r i≠r j)
  (hMc:AllP (fun x=>x.1<B∧x.2.sc (· < B)∧(∃ o,look M (r x.1)=some o∧Conv o (x.2.ren r))∧(x.2.wnd=true∨x.1∈is)∧(x.2.wnd=true→x.1∉is)) Mc) (his : ∀ i∈is,i<B ∧ ∃ o,look Mc i=some o) :
  ∃ L',(∀ p∈L',p.1∈is∧p.2=ρ.s (r p.1) ∧ ∃ o,look M (r p.1)=some o∧o.occ ρ (r p.1))∧WI w L' (ρ.ren r) (look Mc) (· < B) w:=by
 classical
 let L':List (Nat × Nat):=(is.filter fun i=>decide (∃ o,look M (r i)=some o∧o.occ ρ (r i))).map fun i=>(i,ρ.s (r i))
 have hL' : ∀ p∈L',p.1∈is∧p.2=ρ.s (r p.1) ∧ ∃ o,look M (r p.1)=some o∧o.occ ρ (r p.1):=by
  intro p hp
  obtain ⟨i,hi,rfl⟩:=List.mem_map.1 hp
  obtain ⟨h1,h2⟩:=List.mem_filter.1 hi
  exact ⟨h1,rfl,of_decide_eq_true h2⟩
 have hk : ∀ x∈Mc,x.1∈keys:=fun x hx=>by rw [← hkeys]; exact List.mem_map.2 ⟨x,hx,rfl⟩
 refine ⟨L',hL',?_⟩
 refine hW.again ((Ext.refl w).modF fun _=>False) r L' Mc B (fun p hp => ?_) (fun x hx => ?_) (fun x hx y hy h=>hinj _ (hk x hx) _ (hk y hy) h)
 ·obtain ⟨h1,h2,h3⟩:=hL' p hp
  obtain ⟨h4,o,h5⟩:=his p.1 h1
  exact ⟨h4,h2,⟨_,look_mem h5,rfl⟩,h3⟩
 ·obtain ⟨h1,h2,⟨o,h3,h4⟩,h5,h6⟩:=hMc.mem x hx
  refine ⟨h1,h2,fun ho => ?_,o,h3,h4,?_,fun hwd p hp he=>h6 hwd (by rw [← he]; exact (hL' p hp).1)⟩
  ·rcases h5 with h5 | h5
   ·exfalso
    cases hx2:x.2 <;> rw [hx2] at h5 ho <;> first | cases h5; done | exact ho.elim
   ·refine ⟨(x.1,ρ.s (r x.1)),List.mem_map.2 ⟨x.1,List.mem_filter.2 ⟨h5,decide_eq_true ⟨o,h3,?_⟩⟩,rfl⟩,rfl⟩
    rcases h4 with h4 | ⟨e,m,t,vs,_,_,h4⟩ | ⟨pk,nn,l,_,h4⟩
    ·rw [← h4]; exact occ_ren.2 ho
    ·have:=(occ_ren (ρ:=ρ) (r:=r) (i:=x.1) (o:=x.2)).2 ho
     rw [h4] at this; exact this.elim
    ·have:=(occ_ren (ρ:=ρ) (r:=r) (i:=x.1) (o:=x.2)).2 ho
     rw [h4] at this; exact this.elim
  ·cases o <;> simp [SObj.away]
/-- A call by a contract over told blocks. -/
theorem Run.callA {c:Cx} {T:List (Nat × SV)} {M:List (Nat × SObj)} {n:Nat} {D:List Deferred} {ops:Array Oper} {i:Nat} {r:List Nat} {k:List Item} {R:Ending→World→Prop} {o:Oper} {f:Operand} {args:Array Operand} {ts:Array TypeId}
  {fv:SV} {g:FuncId} {caps caps2 vs:List SV} {Mc:List (Nat × SObj)} {B:Nat} {is:List Nat} {v:SV} {M1:List (Nat × SObj)} {n1:Nat} (hspec:BSpec c.P g (vs++caps) Mc B is v M1 n1) (hg:Enters c.P g)
  (ho:get ops.toList i=some o) (hop:o.op = .call { callee := .value f,args:=args,argTypes:=ts }) (hw:wantS ops.toList (look T) o=some true) (hd:okD c.fn.ntmps o.dst=true)
  (hf:ev (look T) f=some fv) (hfv:calleeOf fv=some (g,caps2)) (vs2:List SV) (hvs:evs (look T) args.toList=some vs2) (rn:Nat→Nat) (hvr:SV.rens rn (vs++caps)=vs2++caps2) (hr : ∀ i,i<B→rn i<n) (keys:List Nat) (hkeys:Mc.map (·.1)=keys) (hinj : ∀ i∈keys,∀ j∈keys,i≠j→rn i≠rn j) (hB1:B≤n1)
  (hMc:AllP (fun x=>x.1<B∧x.2.sc (· < B)∧(∃ o,look M (rn x.1)=some o∧Conv o (x.2.ren rn))∧(x.2.wnd=true∨x.1∈is)∧(x.2.wnd=true→x.1∉is)) Mc) (his : ∀ i∈is,i<B ∧ ∃ o,look Mc i=some o)
  (v2:SV) (M2:List (Nat × SObj)) (n2:Nat) (hv2:v2=v.ren (shR rn B n)) (hn2:n2=n+(n1-B)) (hM2:AllP (fun x=>(look M x.1=some x.2 ∧ ∀ i∈is,rn i≠x.1) ∨ ∃ i o,shR rn B n i=x.1∧look M1 i=some o∧x.2=o.ren (shR rn B n)∧o.wnd=false) M2)
  (h:Run c ⟨putS T o.dst v2,M2,n2,D,.inRegion ops r::k⟩ R):Run c ⟨T,M,n,D,.inRegion ops (i::r)::k⟩ R:=by
 subst hv2 hn2
 refine Run.callG ho hop hw hd hf hfv hvs hg (fun v' M' n'=>v'=v.ren (shR rn B n)∧M'=M2∧n'=n+(n1-B)) (fun ρ w _ hW => ?_) (fun v' M' n' hp => ?_)
 ·obtain ⟨L',hL',hWc⟩:=hW.enterA rn Mc B is keys hkeys hinj hMc his
  have hcall:=hspec (ρ.ren rn) w L' hWc fun p hp=>(hL' p hp).1
  rw [← concs_ren,hvr] at hcall
  refine hcall.mono fun e w' ⟨ρ',he,hv,hag,hW'⟩ => ?_
  obtain ⟨hW2,hag2⟩:=hW.mergeR hr hW' hB1 hag (fun p hp=>⟨(his _ (hL' p hp).1).1,(hL' p hp).2.2⟩) M2 (fun x hx=>by
   rcases hM2.mem x hx with ⟨h1,h2⟩ | h1
   ·exact .inl ⟨h1,fun p hp=>h2 _ (hL' p hp).1⟩
   ·exact .inr h1)
  refine ⟨ρ.join B n ρ',_,_,_,?_,hag2,by omega,?_,hW2,rfl,rfl,rfl⟩
  ·rw [he,conc_ren,Env.join_renR hr hag]
  ·refine SV.sc_ren (fun j (hj:j<n1) => ?_) v hv
   show shR rn B n j<n+(n1-B)
   rcases Nat.lt_or_ge j B with h | h
   ·rw [shR_lt h]; have:=hr j h; omega
   ·rw [shR_ge h]; omega
 ·obtain ⟨rfl,rfl,rfl⟩:=hp; exact h
end Go.Sx
namespace Go.Proofs.Ytnnlpdgnlccbjaa
open Go.Sx
set_option maxRecDepth 100000
set_option maxHeartbeats 16000000
theorem equal_run (vA vB:Value) (a b:List Int) (w:World) (hA:RowsAt w vA 1 a.length (ints a)) (hB:RowsAt w vB 1 b.length (ints b)) (hl:a.length≤1000000) :
  Calls Try.prog 31 #[vA,vB] w fun e w'=>e = .returned (.bool (decide (a=b)))∧Ext w w':=by
 have hc : ∀ L,Cx.ok ⟨Try.prog,tab,[],31,Try.f31,[],w,L,none⟩:=fun L=>⟨tab_ok,trivial,Try.func31,mixed,fun _ h=>by cases h⟩
 have hrows:AllP (fun x:Value × Nat × Nat × List Value=>RowsAt w x.1 x.2.1 x.2.2.1 x.2.2.2) [(vA,1,a.length,ints a),(vB,1,b.length,ints b)]:=⟨hA,hB,trivial⟩
 refine Run.startW Try.func31 rfl _ hrows [.opq 0,.opq 1] [vA,vB] [(0,.rwin 1 a.length (ints a)),(1,.rwin 1 b.length (ints b))] 2 rfl rfl
  (by show [(SV.opq 0).conc _,(SV.opq 1).conc _]=_; rw [conc_rows hrows (k:=0) rfl,conc_rows hrows (k:=1) rfl]) (by simp [SV.scs,SV.sc]) rfl (Run.of_wpK (hc _) 1000 _ ?_)
 conv=>whnf
 cases e1:((a.length:Int) != (b.length:Int))
 case true =>
  conv=>whnf
  have e1':a≠b:=fun h=>by rw [h] at e1; simp at e1
  exact ⟨fun ρ w' hW _=>⟨by rw [decide_eq_false e1']; rfl,hW.toExt⟩⟩
 have hl2:(a.length:Int)=(b.length:Int):=by simpa using e1
 have hlen:a.length=b.length:=by omega
 conv=>whnf
 refine Run.trim (T':=[(0,.opq 0),(1,.opq 1),(5,ii ((0:Nat):Int))]) (M':=[(0,.rwin 1 a.length (ints a)),(1,.rwin 1 b.length (ints b))]) 2 ⟨⟨rfl,(show 0<2 by decide)⟩,⟨rfl,(show 1<2 by decide)⟩,⟨rfl,trivial⟩,trivial⟩ ⟨⟨rfl,by omega,trivial⟩,⟨rfl,by omega,trivial⟩,trivial⟩ (fun q hq=>by cases hq) ?_
 refine Run.upToJ (T:=fun i=>[(0,.opq 0),(1,.opq 1),(5,ii (i:Int))]) (M:=fun _=>[(0,.rwin 1 a.length (ints a)),(1,.rwin 1 b.length (ints b))]) (fun i => ∀ j (h:j<a.length) (h':j<b.length),j<i→a[j]=b[j]) a.length (fun j h h' hj=>absurd hj (by omega)) ?_ ?_
 ·intro i hi hJ ih
  have hi2:i<b.length:=by omega
  refine Run.of_wpK (hc _) 1000 _ ?_
  conv=>whnf
  rw [decide_eq_true (show (i:Int)<(a.length:Int) by omega)]
  conv=>whnf
  refine Run.draw (hc _) 9 ?_
  rw [show upto 0 9=upto 0 3++(upto 3 1++(upto 4 3++(upto 7 1++upto 8 1))) from rfl]
  simp only [drawK_app]
  conv=>whnf
  refine ⟨by omega,?_⟩
  conv=>whnf
  rw [opF_load1 i rfl rfl rfl rfl (by rw [idx_nat,Nat.mul_one]) (ints_get hi)]
  conv=>whnf
  refine ⟨by omega,?_⟩
  conv=>whnf
  rw [opF_load1 i rfl rfl rfl rfl (by rw [idx_nat,Nat.mul_one]) (ints_get hi2)]
  conv=>whnf
  refine ⟨by kernel_rfl,?_⟩
  refine Run.of_wpK (hc _) 1000 _ ?_
  conv=>whnf
  cases e2:(a[i] != b[i])
  case true =>
   conv=>whnf
   have hne:a≠b:=fun h=>by subst h; simp at e2
   exact ⟨fun ρ w' hW _=>⟨by rw [decide_eq_false hne]; rfl,hW.toExt⟩⟩
  have heq:a[i]=b[i]:=by simpa using e2
  conv=>whnf
  exact Run.trim (T':=[(0,.opq 0),(1,.opq 1),(5,ii ((i+1:Nat):Int))]) (M':=[(0,.rwin 1 a.length (ints a)),(1,.rwin 1 b.length (ints b))]) 2 ⟨⟨rfl,(show 0<2 by decide)⟩,⟨rfl,(show 1<2 by decide)⟩,⟨congrArg some (congrArg ii (wrap_succ (by omega))),trivial⟩,trivial⟩ ⟨⟨rfl,by omega,trivial⟩,⟨rfl,by omega,trivial⟩,trivial⟩ (fun q hq=>by cases hq) (ih (fun j h h' hj=>by
   by_cases e:j=i
   ·subst e; exact heq
   ·exact hJ j h h' (by omega)))
 ·intro hJ
  refine Run.of_wpK (hc _) 1000 _ ?_
  conv=>whnf
  rw [decide_eq_false (show ¬ ((a.length:Nat):Int)<(a.length:Int) by omega)]
  conv=>whnf
  have hab:a=b:=List.ext_getElem hlen fun j h h'=>hJ j h h' (by omega)
  exact ⟨fun ρ w' hW _=>⟨by rw [decide_eq_true hab]; rfl,hW.toExt⟩⟩
structure OppW (x:Lnt) (a b z:List Mrk):Prop where
 fix : ∀ i,i<x.pl.length→(x.pl.getD i (-1)<0∨(x.rul i).kind=1)→wAt a i=wAt z i∧wAt b i=wAt z i
 opp : ∀ i,i<x.pl.length→0≤x.pl.getD i (-1)→(x.rul i).kind≠1→wAt a i=(x.rul i).lo∨wAt a i=(x.rul i).hi∨wAt b i=(x.rul i).lo∨wAt b i=(x.rul i).hi∨wAt a i-wAt z i=wAt z i-wAt b i
def oppM (x:Lnt) (tk:Int) (sa sb sz:Lst):List (Nat × SObj):=[(0,.cells [ii tk,.opq 1,ii x.n.inp,.opq 2,.opq 3,.mp 8,.mp 9,.mp 10,.mp 11,.mp 12,.mp 13,.mp 14,.mp 15,.mp 16,.mp 17,.mp 18,.mp 19,.mp 20,.mp 21,.mp 22,.mp 23,.opq 4,.opq 5,.opq 6,.mp 7] 96),(3,.rwin 2 x.n.N.length (sa.st.flatMap Ste.vals)),(6,.rwin 4 x.pl.length (sa.m.flatMap Mrk.vals)),(24,.cells [ii tk,.opq 1,ii x.n.inp,.opq 2,.opq 25,.mp 27,.mp 28,.mp 29,.mp 30,.mp 31,.mp 32,.mp 33,.mp 34,.mp 35,.mp 36,.mp 37,.mp 38,.mp 39,.mp 40,.mp 41,.mp 42,.opq 4,.opq 5,.opq 26,.mp 7] 96),(25,.rwin 2 x.n.N.length (sb.st.flatMap Ste.vals)),(26,.rwin 4 x.pl.length (sb.m.flatMap Mrk.vals)),(43,.cells [ii tk,.opq 1,ii x.n.inp,.opq 2,.opq 44,.mp 46,.mp 47,.mp 48,.mp 49,.mp 50,.mp 51,.mp 52,.mp 53,.mp 54,.mp 55,.mp 56,.mp 57,.mp 58,.mp 59,.mp 60,.mp 61,.opq 4,.opq 5,.opq 45,.mp 7] 96),(44,.rwin 2 x.n.N.length (sz.st.flatMap Ste.vals)),(45,.rwin 4 x.pl.length (sz.m.flatMap Mrk.vals)),(1,.rwin 8 x.n.N.length (x.n.N.flatMap Prm.vals)),(2,.rwin 4 x.n.S.length (x.n.S.flatMap Syn.vals)),(63,.rwin 4 x.n.S.length (x.n.S.flatMap Syn.vals)),(64,.rwin 10 x.rs.length (x.rs.flatMap Rul.vals)),(65,.rwin 1 x.pl.length (ints x.pl))]
theorem opposite_spec (x:Lnt) (hx:NetOK x) (tk K:Int) (sa sb sz:Lst) (ha:LInv x sa) (hb:LInv x sb) (hz:LInv x sz) (ho:OppW x sa.m sb.m sz.m) :
  BSpec Try.prog 32 [.agg [.opq 62,ii x.n.inp,.opq 63,.opq 64,.opq 65,.opq 66,.opq 67,ii K],.ptr 0 0,.ptr 24 0,.ptr 43 0] (oppM x tk sa sb sz) 68 [0,24,43] (.v (.bool true)) [] 68:=by
 have hx1:=hx.N2
 have hxN:=hx.N1
 have hx2:=hx.S1
 have hx3:=hx.rl
 have hx4:x.pl.length=x.n.S.length:=hx.lpl
 have hc : ∀ w L' rd,(∀ p,rd=some p→p∈L')→Cx.ok ⟨Try.prog,tab,[],32,Try.f32,[],w,L',rd⟩:=fun w L' rd h=>⟨tab_ok,trivial,Try.func32,mixed,h⟩
 refine BSpec.start (tab:=tab) (pf:=[]) (cuts:=[]) Try.func32 rfl ⟨⟨(show 62<68 by decide),trivial,(show 63<68 by decide),(show 64<68 by decide),(show 65<68 by decide),(show 66<68 by decide),(show 67<68 by decide),trivial,trivial⟩,(show 0<68 by decide),(show 24<68 by decide),(show 43<68 by decide),trivial⟩ rfl fun w L0 plp hL hLB hcov=>Run.of_wpK (hc w L0 none (fun _ h=>by cases h)) 100 _ ?_
 conv=>whnf
 have hmsa:sa.m.length=x.pl.length:=by rw [ha.lm,hx4]
 have hnet:=Net_spec (ii tk) x.n.inp (fun k => .mp (8+k)) x.n.N x.n.S sa.st sa.m (by simp [lcells,SV.scs,SV.sc]) (by rw [hmsa,hx4]) hx2 hx1 hxN
 unfold nowM at hnet
 rw [hmsa] at hnet
 refine Run.callR (vs:=[.ptr 0 0]) (caps:=[]) (caps2:=[]) hnet (ent _ _ Try.func28 (by kernel_rfl) rfl) rfl rfl rfl rfl rfl rfl [.ptr 0 0] rfl (fun q=>if q=0 then 0 else if q=3 then 3 else if q=6 then 6 else if 8≤q then 0+q else q) rfl (fun q hq=>by have inv : ∀ q,q<24→(fun q=>if q=0 then 0 else if q=3 then 3 else if q=6 then 6 else if 8≤q then 0+q else q) q<70:=(by decide); exact inv q hq) (fun q hq j hj hne=>by have inj : ∀ i,i<24 → ∀ j,j<24→i≠j→(fun q=>if q=0 then 0 else if q=3 then 3 else if q=6 then 6 else if 8≤q then 0+q else q) i≠(fun q=>if q=0 then 0 else if q=3 then 3 else if q=6 then 6 else if 8≤q then 0+q else q) j:=(by decide); exact inj q hq j hj hne) (by decide)
  ⟨⟨by omega,by simp [lcells,SObj.sc,SV.scs,SV.sc],⟨_,rfl,Conv.refl _⟩,.inr (by simp),fun h=>by cases h⟩,⟨by omega,trivial,⟨_,rfl,Conv.refl _⟩,.inl rfl,fun _=>by simp⟩,⟨by omega,trivial,⟨_,rfl,Conv.refl _⟩,.inl rfl,fun _=>by simp⟩,⟨by omega,trivial,⟨_,rfl,Conv.refl _⟩,.inl rfl,fun _=>by simp⟩,⟨by omega,trivial,⟨_,rfl,Conv.refl _⟩,.inl rfl,fun _=>by simp⟩,trivial⟩ (fun q hq=>by simp at hq; subst hq; exact ⟨by omega,_,rfl⟩) (.tup [.agg [.opq 70,ii x.n.inp,.opq 71],ii 0]) [(70,.row 8 x.n.N.length ((x.n.N.flatMap Prm.vals).map .v) 60),(71,.row 4 x.n.S.length ((nowL x.n.S sa.m).flatMap Syn.cells) 55),(0,.cells [ii tk,.opq 1,ii x.n.inp,.opq 2,.opq 3,.mp 8,.mp 9,.mp 10,.mp 11,.mp 12,.mp 13,.mp 14,.mp 15,.mp 16,.mp 17,.mp 18,.mp 19,.mp 20,.mp 21,.mp 22,.mp 23,.opq 4,.opq 5,.opq 6,.mp 7] 96),(69,.cells [.opq 62,ii x.n.inp,.opq 63,.opq 64,.opq 65,.opq 66,.opq 67,ii K] 45),(68,.pin plp),(3,.rwin 2 x.n.N.length (sa.st.flatMap Ste.vals)),(6,.rwin 4 x.pl.length (sa.m.flatMap Mrk.vals)),(24,.cells [ii tk,.opq 1,ii x.n.inp,.opq 2,.opq 25,.mp 27,.mp 28,.mp 29,.mp 30,.mp 31,.mp 32,.mp 33,.mp 34,.mp 35,.mp 36,.mp 37,.mp 38,.mp 39,.mp 40,.mp 41,.mp 42,.opq 4,.opq 5,.opq 26,.mp 7] 96),(25,.rwin 2 x.n.N.length (sb.st.flatMap Ste.vals)),(26,.rwin 4 x.pl.length (sb.m.flatMap Mrk.vals)),(43,.cells [ii tk,.opq 1,ii x.n.inp,.opq 2,.opq 44,.mp 46,.mp 47,.mp 48,.mp 49,.mp 50,.mp 51,.mp 52,.mp 53,.mp 54,.mp 55,.mp 56,.mp 57,.mp 58,.mp 59,.mp 60,.mp 61,.opq 4,.opq 5,.opq 45,.mp 7] 96),(44,.rwin 2 x.n.N.length (sz.st.flatMap Ste.vals)),(45,.rwin 4 x.pl.length (sz.m.flatMap Mrk.vals)),(1,.rwin 8 x.n.N.length (x.n.N.flatMap Prm.vals)),(2,.rwin 4 x.n.S.length (x.n.S.flatMap Syn.vals)),(63,.rwin 4 x.n.S.length (x.n.S.flatMap Syn.vals)),(64,.rwin 10 x.rs.length (x.rs.flatMap Rul.vals)),(65,.rwin 1 x.pl.length (ints x.pl))] 72 rfl rfl
  ⟨.inr ⟨24,_,rfl,rfl,(oren_fix (S:=fun _=>False) (fun i hi=>hi.elim) (o := .row 8 x.n.N.length ((x.n.N.flatMap Prm.vals).map .v) 60) (scs_v _ _)).symm,rfl⟩,.inr ⟨25,_,rfl,rfl,(oren_fix (S:=fun _=>False) (fun i hi=>hi.elim) (o := .row 4 x.n.S.length ((nowL x.n.S sa.m).flatMap Syn.cells) 55) (scs_syns _ _)).symm,rfl⟩,.inr ⟨0,_,rfl,rfl,rfl,rfl⟩,.inl ⟨rfl,fun q hq=>by simp at hq; subst hq; exact (show 0≠69 by decide)⟩,.inl ⟨rfl,fun q hq=>by simp at hq; subst hq; exact (show 0≠68 by decide)⟩,.inl ⟨rfl,fun q hq=>by simp at hq; subst hq; exact (show 0≠3 by decide)⟩,.inl ⟨rfl,fun q hq=>by simp at hq; subst hq; exact (show 0≠6 by decide)⟩,.inl ⟨rfl,fun q hq=>by simp at hq; subst hq; exact (show 0≠24 by decide)⟩,.inl ⟨rfl,fun q hq=>by simp at hq; subst hq; exact (show 0≠25 by decide)⟩,.inl ⟨rfl,fun q hq=>by simp at hq; subst hq; exact (show 0≠26 by decide)⟩,.inl ⟨rfl,fun q hq=>by simp at hq; subst hq; exact (show 0≠43 by decide)⟩,.inl ⟨rfl,fun q hq=>by simp at hq; subst hq; exact (show 0≠44 by decide)⟩,.inl ⟨rfl,fun q hq=>by simp at hq; subst hq; exact (show 0≠45 by decide)⟩,.inl ⟨rfl,fun q hq=>by simp at hq; subst hq; exact (show 0≠1 by decide)⟩,.inl ⟨rfl,fun q hq=>by simp at hq; subst hq; exact (show 0≠2 by decide)⟩,.inl ⟨rfl,fun q hq=>by simp at hq; subst hq; exact (show 0≠63 by decide)⟩,.inl ⟨rfl,fun q hq=>by simp at hq; subst hq; exact (show 0≠64 by decide)⟩,.inl ⟨rfl,fun q hq=>by simp at hq; subst hq; exact (show 0≠65 by decide)⟩,trivial⟩ ?_
 refine Run.of_wpK (hc w L0 none (fun _ h=>by cases h)) 1000 _ ?_
 conv=>whnf
 clear hnet
 have hmsb:sb.m.length=x.pl.length:=by rw [hb.lm,hx4]
 have hnet:=Net_spec (ii tk) x.n.inp (fun k => .mp (8+k)) x.n.N x.n.S sb.st sb.m (by simp [lcells,SV.scs,SV.sc]) (by rw [hmsb,hx4]) hx2 hx1 hxN
 unfold nowM at hnet
 rw [hmsb] at hnet
 refine Run.callR (vs:=[.ptr 0 0]) (caps:=[]) (caps2:=[]) hnet (ent _ _ Try.func28 (by kernel_rfl) rfl) rfl rfl rfl rfl rfl rfl [.ptr 24 0] rfl (fun q=>if q=0 then 24 else if q=3 then 25 else if q=6 then 26 else if 8≤q then 19+q else q) rfl (fun q hq=>by have inv : ∀ q,q<24→(fun q=>if q=0 then 24 else if q=3 then 25 else if q=6 then 26 else if 8≤q then 19+q else q) q<73:=(by decide); exact inv q hq) (fun q hq j hj hne=>by have inj : ∀ i,i<24 → ∀ j,j<24→i≠j→(fun q=>if q=0 then 24 else if q=3 then 25 else if q=6 then 26 else if 8≤q then 19+q else q) i≠(fun q=>if q=0 then 24 else if q=3 then 25 else if q=6 then 26 else if 8≤q then 19+q else q) j:=(by decide); exact inj q hq j hj hne) (by decide)
  ⟨⟨by omega,by simp [lcells,SObj.sc,SV.scs,SV.sc],⟨_,rfl,Conv.refl _⟩,.inr (by simp),fun h=>by cases h⟩,⟨by omega,trivial,⟨_,rfl,Conv.refl _⟩,.inl rfl,fun _=>by simp⟩,⟨by omega,trivial,⟨_,rfl,Conv.refl _⟩,.inl rfl,fun _=>by simp⟩,⟨by omega,trivial,⟨_,rfl,Conv.refl _⟩,.inl rfl,fun _=>by simp⟩,⟨by omega,trivial,⟨_,rfl,Conv.refl _⟩,.inl rfl,fun _=>by simp⟩,trivial⟩ (fun q hq=>by simp at hq; subst hq; exact ⟨by omega,_,rfl⟩) (.tup [.agg [.opq 73,ii x.n.inp,.opq 74],ii 0]) [(73,.row 8 x.n.N.length ((x.n.N.flatMap Prm.vals).map .v) 60),(74,.row 4 x.n.S.length ((nowL x.n.S sb.m).flatMap Syn.cells) 55),(24,.cells [ii tk,.opq 1,ii x.n.inp,.opq 2,.opq 25,.mp 27,.mp 28,.mp 29,.mp 30,.mp 31,.mp 32,.mp 33,.mp 34,.mp 35,.mp 36,.mp 37,.mp 38,.mp 39,.mp 40,.mp 41,.mp 42,.opq 4,.opq 5,.opq 26,.mp 7] 96),(72,.cells [.opq 70,ii x.n.inp,.opq 71] 25),(70,.row 8 x.n.N.length ((x.n.N.flatMap Prm.vals).map .v) 60),(71,.row 4 x.n.S.length ((nowL x.n.S sa.m).flatMap Syn.cells) 55),(0,.cells [ii tk,.opq 1,ii x.n.inp,.opq 2,.opq 3,.mp 8,.mp 9,.mp 10,.mp 11,.mp 12,.mp 13,.mp 14,.mp 15,.mp 16,.mp 17,.mp 18,.mp 19,.mp 20,.mp 21,.mp 22,.mp 23,.opq 4,.opq 5,.opq 6,.mp 7] 96),(69,.cells [.opq 62,ii x.n.inp,.opq 63,.opq 64,.opq 65,.opq 66,.opq 67,ii K] 45),(68,.pin plp),(3,.rwin 2 x.n.N.length (sa.st.flatMap Ste.vals)),(6,.rwin 4 x.pl.length (sa.m.flatMap Mrk.vals)),(25,.rwin 2 x.n.N.length (sb.st.flatMap Ste.vals)),(26,.rwin 4 x.pl.length (sb.m.flatMap Mrk.vals)),(43,.cells [ii tk,.opq 1,ii x.n.inp,.opq 2,.opq 44,.mp 46,.mp 47,.mp 48,.mp 49,.mp 50,.mp 51,.mp 52,.mp 53,.mp 54,.mp 55,.mp 56,.mp 57,.mp 58,.mp 59,.mp 60,.mp 61,.opq 4,.opq 5,.opq 45,.mp 7] 96),(44,.rwin 2 x.n.N.length (sz.st.flatMap Ste.vals)),(45,.rwin 4 x.pl.length (sz.m.flatMap Mrk.vals)),(1,.rwin 8 x.n.N.length (x.n.N.flatMap Prm.vals)),(2,.rwin 4 x.n.S.length (x.n.S.flatMap Syn.vals)),(63,.rwin 4 x.n.S.length (x.n.S.flatMap Syn.vals)),(64,.rwin 10 x.rs.length (x.rs.flatMap Rul.vals)),(65,.rwin 1 x.pl.length (ints x.pl))] 75 rfl rfl
  ⟨.inr ⟨24,_,rfl,rfl,(oren_fix (S:=fun _=>False) (fun i hi=>hi.elim) (o := .row 8 x.n.N.length ((x.n.N.flatMap Prm.vals).map .v) 60) (scs_v _ _)).symm,rfl⟩,.inr ⟨25,_,rfl,rfl,(oren_fix (S:=fun _=>False) (fun i hi=>hi.elim) (o := .row 4 x.n.S.length ((nowL x.n.S sb.m).flatMap Syn.cells) 55) (scs_syns _ _)).symm,rfl⟩,.inr ⟨0,_,rfl,rfl,rfl,rfl⟩,.inl ⟨rfl,fun q hq=>by simp at hq; subst hq; exact (show 24≠72 by decide)⟩,.inl ⟨rfl,fun q hq=>by simp at hq; subst hq; exact (show 24≠70 by decide)⟩,.inl ⟨rfl,fun q hq=>by simp at hq; subst hq; exact (show 24≠71 by decide)⟩,.inl ⟨rfl,fun q hq=>by simp at hq; subst hq; exact (show 24≠0 by decide)⟩,.inl ⟨rfl,fun q hq=>by simp at hq; subst hq; exact (show 24≠69 by decide)⟩,.inl ⟨rfl,fun q hq=>by simp at hq; subst hq; exact (show 24≠68 by decide)⟩,.inl ⟨rfl,fun q hq=>by simp at hq; subst hq; exact (show 24≠3 by decide)⟩,.inl ⟨rfl,fun q hq=>by simp at hq; subst hq; exact (show 24≠6 by decide)⟩,.inl ⟨rfl,fun q hq=>by simp at hq; subst hq; exact (show 24≠25 by decide)⟩,.inl ⟨rfl,fun q hq=>by simp at hq; subst hq; exact (show 24≠26 by decide)⟩,.inl ⟨rfl,fun q hq=>by simp at hq; subst hq; exact (show 24≠43 by decide)⟩,.inl ⟨rfl,fun q hq=>by simp at hq; subst hq; exact (show 24≠44 by decide)⟩,.inl ⟨rfl,fun q hq=>by simp at hq; subst hq; exact (show 24≠45 by decide)⟩,.inl ⟨rfl,fun q hq=>by simp at hq; subst hq; exact (show 24≠1 by decide)⟩,.inl ⟨rfl,fun q hq=>by simp at hq; subst hq; exact (show 24≠2 by decide)⟩,.inl ⟨rfl,fun q hq=>by simp at hq; subst hq; exact (show 24≠63 by decide)⟩,.inl ⟨rfl,fun q hq=>by simp at hq; subst hq; exact (show 24≠64 by decide)⟩,.inl ⟨rfl,fun q hq=>by simp at hq; subst hq; exact (show 24≠65 by decide)⟩,trivial⟩ ?_
 refine Run.of_wpK (hc w L0 none (fun _ h=>by cases h)) 1000 _ ?_
 conv=>whnf
 clear hnet
 have hmsz:sz.m.length=x.pl.length:=by rw [hz.lm,hx4]
 have hnet:=Net_spec (ii tk) x.n.inp (fun k => .mp (8+k)) x.n.N x.n.S sz.st sz.m (by simp [lcells,SV.scs,SV.sc]) (by rw [hmsz,hx4]) hx2 hx1 hxN
 unfold nowM at hnet
 rw [hmsz] at hnet
 refine Run.callR (vs:=[.ptr 0 0]) (caps:=[]) (caps2:=[]) hnet (ent _ _ Try.func28 (by kernel_rfl) rfl) rfl rfl rfl rfl rfl rfl [.ptr 43 0] rfl (fun q=>if q=0 then 43 else if q=3 then 44 else if q=6 then 45 else if 8≤q then 38+q else q) rfl (fun q hq=>by have inv : ∀ q,q<24→(fun q=>if q=0 then 43 else if q=3 then 44 else if q=6 then 45 else if 8≤q then 38+q else q) q<76:=(by decide); exact inv q hq) (fun q hq j hj hne=>by have inj : ∀ i,i<24 → ∀ j,j<24→i≠j→(fun q=>if q=0 then 43 else if q=3 then 44 else if q=6 then 45 else if 8≤q then 38+q else q) i≠(fun q=>if q=0 then 43 else if q=3 then 44 else if q=6 then 45 else if 8≤q then 38+q else q) j:=(by decide); exact inj q hq j hj hne) (by decide)
  ⟨⟨by omega,by simp [lcells,SObj.sc,SV.scs,SV.sc],⟨_,rfl,Conv.refl _⟩,.inr (by simp),fun h=>by cases h⟩,⟨by omega,trivial,⟨_,rfl,Conv.refl _⟩,.inl rfl,fun _=>by simp⟩,⟨by omega,trivial,⟨_,rfl,Conv.refl _⟩,.inl rfl,fun _=>by simp⟩,⟨by omega,trivial,⟨_,rfl,Conv.refl _⟩,.inl rfl,fun _=>by simp⟩,⟨by omega,trivial,⟨_,rfl,Conv.refl _⟩,.inl rfl,fun _=>by simp⟩,trivial⟩ (fun q hq=>by simp at hq; subst hq; exact ⟨by omega,_,rfl⟩) (.tup [.agg [.opq 76,ii x.n.inp,.opq 77],ii 0]) [(76,.row 8 x.n.N.length ((x.n.N.flatMap Prm.vals).map .v) 60),(77,.row 4 x.n.S.length ((nowL x.n.S sz.m).flatMap Syn.cells) 55),(43,.cells [ii tk,.opq 1,ii x.n.inp,.opq 2,.opq 44,.mp 46,.mp 47,.mp 48,.mp 49,.mp 50,.mp 51,.mp 52,.mp 53,.mp 54,.mp 55,.mp 56,.mp 57,.mp 58,.mp 59,.mp 60,.mp 61,.opq 4,.opq 5,.opq 45,.mp 7] 96),(75,.cells [.opq 73,ii x.n.inp,.opq 74] 25),(73,.row 8 x.n.N.length ((x.n.N.flatMap Prm.vals).map .v) 60),(74,.row 4 x.n.S.length ((nowL x.n.S sb.m).flatMap Syn.cells) 55),(24,.cells [ii tk,.opq 1,ii x.n.inp,.opq 2,.opq 25,.mp 27,.mp 28,.mp 29,.mp 30,.mp 31,.mp 32,.mp 33,.mp 34,.mp 35,.mp 36,.mp 37,.mp 38,.mp 39,.mp 40,.mp 41,.mp 42,.opq 4,.opq 5,.opq 26,.mp 7] 96),(72,.cells [.opq 70,ii x.n.inp,.opq 71] 25),(70,.row 8 x.n.N.length ((x.n.N.flatMap Prm.vals).map .v) 60),(71,.row 4 x.n.S.length ((nowL x.n.S sa.m).flatMap Syn.cells) 55),(0,.cells [ii tk,.opq 1,ii x.n.inp,.opq 2,.opq 3,.mp 8,.mp 9,.mp 10,.mp 11,.mp 12,.mp 13,.mp 14,.mp 15,.mp 16,.mp 17,.mp 18,.mp 19,.mp 20,.mp 21,.mp 22,.mp 23,.opq 4,.opq 5,.opq 6,.mp 7] 96),(69,.cells [.opq 62,ii x.n.inp,.opq 63,.opq 64,.opq 65,.opq 66,.opq 67,ii K] 45),(68,.pin plp),(3,.rwin 2 x.n.N.length (sa.st.flatMap Ste.vals)),(6,.rwin 4 x.pl.length (sa.m.flatMap Mrk.vals)),(25,.rwin 2 x.n.N.length (sb.st.flatMap Ste.vals)),(26,.rwin 4 x.pl.length (sb.m.flatMap Mrk.vals)),(44,.rwin 2 x.n.N.length (sz.st.flatMap Ste.vals)),(45,.rwin 4 x.pl.length (sz.m.flatMap Mrk.vals)),(1,.rwin 8 x.n.N.length (x.n.N.flatMap Prm.vals)),(2,.rwin 4 x.n.S.length (x.n.S.flatMap Syn.vals)),(63,.rwin 4 x.n.S.length (x.n.S.flatMap Syn.vals)),(64,.rwin 10 x.rs.length (x.rs.flatMap Rul.vals)),(65,.rwin 1 x.pl.length (ints x.pl))] 78 rfl rfl
  ⟨.inr ⟨24,_,rfl,rfl,(oren_fix (S:=fun _=>False) (fun i hi=>hi.elim) (o := .row 8 x.n.N.length ((x.n.N.flatMap Prm.vals).map .v) 60) (scs_v _ _)).symm,rfl⟩,.inr ⟨25,_,rfl,rfl,(oren_fix (S:=fun _=>False) (fun i hi=>hi.elim) (o := .row 4 x.n.S.length ((nowL x.n.S sz.m).flatMap Syn.cells) 55) (scs_syns _ _)).symm,rfl⟩,.inr ⟨0,_,rfl,rfl,rfl,rfl⟩,.inl ⟨rfl,fun q hq=>by simp at hq; subst hq; exact (show 43≠75 by decide)⟩,.inl ⟨rfl,fun q hq=>by simp at hq; subst hq; exact (show 43≠73 by decide)⟩,.inl ⟨rfl,fun q hq=>by simp at hq; subst hq; exact (show 43≠74 by decide)⟩,.inl ⟨rfl,fun q hq=>by simp at hq; subst hq; exact (show 43≠24 by decide)⟩,.inl ⟨rfl,fun q hq=>by simp at hq; subst hq; exact (show 43≠72 by decide)⟩,.inl ⟨rfl,fun q hq=>by simp at hq; subst hq; exact (show 43≠70 by decide)⟩,.inl ⟨rfl,fun q hq=>by simp at hq; subst hq; exact (show 43≠71 by decide)⟩,.inl ⟨rfl,fun q hq=>by simp at hq; subst hq; exact (show 43≠0 by decide)⟩,.inl ⟨rfl,fun q hq=>by simp at hq; subst hq; exact (show 43≠69 by decide)⟩,.inl ⟨rfl,fun q hq=>by simp at hq; subst hq; exact (show 43≠68 by decide)⟩,.inl ⟨rfl,fun q hq=>by simp at hq; subst hq; exact (show 43≠3 by decide)⟩,.inl ⟨rfl,fun q hq=>by simp at hq; subst hq; exact (show 43≠6 by decide)⟩,.inl ⟨rfl,fun q hq=>by simp at hq; subst hq; exact (show 43≠25 by decide)⟩,.inl ⟨rfl,fun q hq=>by simp at hq; subst hq; exact (show 43≠26 by decide)⟩,.inl ⟨rfl,fun q hq=>by simp at hq; subst hq; exact (show 43≠44 by decide)⟩,.inl ⟨rfl,fun q hq=>by simp at hq; subst hq; exact (show 43≠45 by decide)⟩,.inl ⟨rfl,fun q hq=>by simp at hq; subst hq; exact (show 43≠1 by decide)⟩,.inl ⟨rfl,fun q hq=>by simp at hq; subst hq; exact (show 43≠2 by decide)⟩,.inl ⟨rfl,fun q hq=>by simp at hq; subst hq; exact (show 43≠63 by decide)⟩,.inl ⟨rfl,fun q hq=>by simp at hq; subst hq; exact (show 43≠64 by decide)⟩,.inl ⟨rfl,fun q hq=>by simp at hq; subst hq; exact (show 43≠65 by decide)⟩,trivial⟩ ?_
 refine Run.of_wpK (hc w L0 none (fun _ h=>by cases h)) 1000 _ ?_
 conv=>whnf
 clear hnet
 rw [show ((x.n.S.length:Int) != (x.n.S.length:Int))=false by simp]
 conv=>whnf
 rw [show ((x.n.S.length:Int) != (x.n.S.length:Int))=false by simp]
 conv=>whnf
 rw [show ((x.n.S.length:Int) != (x.n.S.length:Int))=false by simp]
 conv=>whnf
 have hA1:=now_len x sa
 have hB1:=now_len x sb
 have hZ1:=now_len x sz
 have hgt : ∀ s:Lst,LInv x s → ∀ i (hi:i<x.n.S.length) (hi2:i<(nowL x.n.S s.m).length),(nowL x.n.S s.m)[i].w=wAt s.m i:=fun s h i hi hi2=>by
  have:=now_get h hi
  rw [List.getD_eq_getElem?_getD,List.getElem?_eq_getElem hi2] at this
  exact congrArg Syn.w this
 have hgA:=hgt sa ha
 have hgB:=hgt sb hb
 have hgZ:=hgt sz hz
 obtain ⟨LA,hLA⟩ : ∃ L,nowL x.n.S sa.m=L:=⟨_,rfl⟩
 obtain ⟨LBB,hLB2⟩ : ∃ L,nowL x.n.S sb.m=L:=⟨_,rfl⟩
 obtain ⟨LZ,hLZ⟩ : ∃ L,nowL x.n.S sz.m=L:=⟨_,rfl⟩
 simp only [hLA] at hA1 hgA
 simp only [hLB2] at hB1 hgB
 simp only [hLZ] at hZ1 hgZ
 rw [hLA,hLB2,hLZ]
 have hgA:=fun i hi=>hgA i hi (by omega)
 have hgB:=fun i hi=>hgB i hi (by omega)
 have hgZ:=fun i hi=>hgZ i hi (by omega)
 refine Run.trim (T':=[(4,.ptr 69 0),(9,.ptr 72 0),(11,.ptr 75 0),(13,.ptr 78 0),(15,ii (((0:Nat):Nat):Int))]) (M':=[(72,.cells [.opq 70,ii x.n.inp,.opq 71] 25),(75,.cells [.opq 73,ii x.n.inp,.opq 74] 25),(78,.cells [.opq 76,ii x.n.inp,.opq 77] 25),(71,.row 4 x.n.S.length (LA.flatMap Syn.cells) 55),(74,.row 4 x.n.S.length (LBB.flatMap Syn.cells) 55),(77,.row 4 x.n.S.length (LZ.flatMap Syn.cells) 55),(69,.cells [.opq 62,ii x.n.inp,.opq 63,.opq 64,.opq 65,.opq 66,.opq 67,ii K] 45),(68,.pin plp),(64,.rwin 10 x.rs.length (x.rs.flatMap Rul.vals)),(65,.rwin 1 x.pl.length (ints x.pl))]) 79 ⟨⟨rfl,(show 69<79 by decide)⟩,⟨rfl,(show 72<79 by decide)⟩,⟨rfl,(show 75<79 by decide)⟩,⟨rfl,(show 78<79 by decide)⟩,⟨rfl,trivial⟩,trivial⟩ ⟨⟨rfl,by omega,by simp [SObj.sc,SV.scs,SV.sc]⟩,⟨rfl,by omega,by simp [SObj.sc,SV.scs,SV.sc]⟩,⟨rfl,by omega,by simp [SObj.sc,SV.scs,SV.sc]⟩,⟨rfl,by omega,scs_syns _ _⟩,⟨rfl,by omega,scs_syns _ _⟩,⟨rfl,by omega,scs_syns _ _⟩,⟨rfl,by omega,by simp [SObj.sc,SV.scs,SV.sc]⟩,⟨rfl,by omega,fun p hp=>Nat.lt_of_lt_of_le (hcov.1 p hp) (show 68≤79 by decide)⟩,⟨rfl,by omega,trivial⟩,⟨rfl,by omega,trivial⟩,trivial⟩ (fun p hp=>by have:=hLB p hp; omega) ?_
 refine Run.upToJ (T:=fun i=>[(4,.ptr 69 0),(9,.ptr 72 0),(11,.ptr 75 0),(13,.ptr 78 0),(15,ii ((i:Nat):Int))]) (M:=fun i=>[(72,.cells [.opq 70,ii x.n.inp,.opq 71] 25),(75,.cells [.opq 73,ii x.n.inp,.opq 74] 25),(78,.cells [.opq 76,ii x.n.inp,.opq 77] 25),(71,.row 4 x.n.S.length (LA.flatMap Syn.cells) 55),(74,.row 4 x.n.S.length (LBB.flatMap Syn.cells) 55),(77,.row 4 x.n.S.length (LZ.flatMap Syn.cells) 55),(69,.cells [.opq 62,ii x.n.inp,.opq 63,.opq 64,.opq 65,.opq 66,.opq 67,ii K] 45),(68,.pin plp),(64,.rwin 10 x.rs.length (x.rs.flatMap Rul.vals)),(65,.rwin 1 x.pl.length (ints x.pl))]) (fun _=>True) (x.n.S.length) (trivial) ?_ ?_
 ·intro i hi hJ ih
  refine Run.of_wpK (hc w L0 none (fun _ h=>by cases h)) 1000 _ ?_
  conv=>whnf
  rw [decide_eq_true (show ((i:Nat):Int)<(x.n.S.length:Int) by omega)]
  conv=>whnf
  have hip:i<x.pl.length:=by omega
  have hiA:i<LA.length:=by omega
  have hiB:i<LBB.length:=by omega
  have hiZ:i<LZ.length:=by omega
  have gA:=hgA i hi
  have gB:=hgB i hi
  have gZ:=hgZ i hi
  have hpd:x.pl.getD i (-1)=x.pl[i]:=by simp [List.getD_eq_getElem?_getD,hip]
  have hp1:=hx.p1 i hip
  obtain ⟨k,hkp⟩ : ∃ k,x.pl[i]=k:=⟨_,rfl⟩
  rw [hkp] at hpd hp1
  have fx:=ho.fix i hip
  have op:=ho.opp i hip
  rw [hpd] at fx op
  obtain ⟨A,hA⟩ : ∃ A,wAt sa.m i=A:=⟨_,rfl⟩
  obtain ⟨B,hB⟩ : ∃ B,wAt sb.m i=B:=⟨_,rfl⟩
  obtain ⟨Z,hZ⟩ : ∃ Z,wAt sz.m i=Z:=⟨_,rfl⟩
  have bA:0≤k → -255≤A∧A≤255:=fun hk=>by have:=w_bounds hx ha (plIdx_iff.2 ⟨hip,by omega⟩); omega
  have bB:0≤k → -255≤B∧B≤255:=fun hk=>by have:=w_bounds hx hb (plIdx_iff.2 ⟨hip,by omega⟩); omega
  have bZ:0≤k → -255≤Z∧Z≤255:=fun hk=>by have:=w_bounds hx hz (plIdx_iff.2 ⟨hip,by omega⟩); omega
  rw [hA] at gA fx op
  rw [hB] at gB fx op
  rw [hZ] at gZ fx op
  refine Run.draw (hc w L0 none (fun _ h=>by cases h)) 21 ?_
  rw [show upto 0 21=upto 0 5++(upto 5 1++(upto 6 5++(upto 11 1++(upto 12 5++(upto 17 1++upto 18 3))))) from rfl]
  simp only [drawK_app]
  conv=>whnf
  refine ⟨by omega,?_⟩
  conv=>whnf
  rw [opF_loadRf (f:=Syn.cells) (l:=LA) (c:=ii LA[i].w) i 2 rfl rfl rfl rfl Syn.clen (by rw [idx_nat]) hiA (by decide) rfl]
  conv=>whnf
  refine ⟨by omega,?_⟩
  conv=>whnf
  rw [opF_loadRf (f:=Syn.cells) (l:=LBB) (c:=ii LBB[i].w) i 2 rfl rfl rfl rfl Syn.clen (by rw [idx_nat]) hiB (by decide) rfl]
  conv=>whnf
  refine ⟨by omega,?_⟩
  conv=>whnf
  rw [opF_loadRf (f:=Syn.cells) (l:=LZ) (c:=ii LZ[i].w) i 2 rfl rfl rfl rfl Syn.clen (by rw [idx_nat]) hiZ (by decide) rfl]
  conv=>whnf
  refine ⟨by kernel_rfl,?_⟩
  refine Run.of_wpK (hc w L0 none (fun _ h=>by cases h)) 1000 _ ?_
  conv=>whnf
  rw [gA,gB,gZ]
  refine Run.draw (hc w L0 none (fun _ h=>by cases h)) 19 ?_
  rw [show upto 0 19=upto 0 4++(upto 4 1++(upto 5 2++(upto 7 1++(upto 8 5++(upto 13 1++(upto 14 2++(upto 16 1++upto 17 2))))))) from rfl]
  simp only [drawK_app]
  conv=>whnf
  refine ⟨by omega,?_⟩
  conv=>whnf
  rw [opF_load1 i rfl rfl rfl rfl (by rw [idx_nat,Nat.mul_one]) (ints_get hip),hkp]
  conv=>whnf
  cases hneg:decide (k<0)
  case true =>
   have hlt:=of_decide_eq_true hneg
   obtain ⟨f1,f2⟩:=fx (.inl hlt)
   conv=>whnf
   refine ⟨by kernel_rfl,?_⟩
   refine Run.of_wpK (hc w L0 none (fun _ h=>by cases h)) 1000 _ ?_
   conv=>whnf
   rw [f1,f2,show (Z != Z)=false by simp]
   conv=>whnf
   rw [show (Z != Z)=false by simp]
   conv=>whnf
   exact Run.trim (T':=[(4,.ptr 69 0),(9,.ptr 72 0),(11,.ptr 75 0),(13,.ptr 78 0),(15,ii (((i+1:Nat):Nat):Int))]) (M':=[(72,.cells [.opq 70,ii x.n.inp,.opq 71] 25),(75,.cells [.opq 73,ii x.n.inp,.opq 74] 25),(78,.cells [.opq 76,ii x.n.inp,.opq 77] 25),(71,.row 4 x.n.S.length (LA.flatMap Syn.cells) 55),(74,.row 4 x.n.S.length (LBB.flatMap Syn.cells) 55),(77,.row 4 x.n.S.length (LZ.flatMap Syn.cells) 55),(69,.cells [.opq 62,ii x.n.inp,.opq 63,.opq 64,.opq 65,.opq 66,.opq 67,ii K] 45),(68,.pin plp),(64,.rwin 10 x.rs.length (x.rs.flatMap Rul.vals)),(65,.rwin 1 x.pl.length (ints x.pl))]) 79 ⟨⟨rfl,(show 69<79 by decide)⟩,⟨rfl,(show 72<79 by decide)⟩,⟨rfl,(show 75<79 by decide)⟩,⟨rfl,(show 78<79 by decide)⟩,⟨congrArg some (congrArg ii (wrap_succ (by omega))),trivial⟩,trivial⟩ ⟨⟨rfl,by omega,by simp [SObj.sc,SV.scs,SV.sc]⟩,⟨rfl,by omega,by simp [SObj.sc,SV.scs,SV.sc]⟩,⟨rfl,by omega,by simp [SObj.sc,SV.scs,SV.sc]⟩,⟨rfl,by omega,scs_syns _ _⟩,⟨rfl,by omega,scs_syns _ _⟩,⟨rfl,by omega,scs_syns _ _⟩,⟨rfl,by omega,by simp [SObj.sc,SV.scs,SV.sc]⟩,⟨rfl,by omega,fun p hp=>Nat.lt_of_lt_of_le (hcov.1 p hp) (show 68≤79 by decide)⟩,⟨rfl,by omega,trivial⟩,⟨rfl,by omega,trivial⟩,trivial⟩ (fun p hp=>by have:=hLB p hp; omega) (ih trivial)
  have hge:=of_decide_eq_false hneg
  have hk0:0≤k:=by omega
  have hkr:k.toNat<x.rs.length:=by omega
  have hru:x.rul i=x.rs[k.toNat]:=by unfold Lnt.rul; rw [hpd]; simp [List.getD_eq_getElem?_getD,hkr]
  rw [hru] at fx op
  have bA:=bA hk0
  have bB:=bB hk0
  have bZ:=bZ hk0
  conv=>whnf
  refine ⟨by omega,?_⟩
  conv=>whnf
  rw [opF_load1 i rfl rfl rfl rfl (by rw [idx_nat,Nat.mul_one]) (ints_get hip),hkp]
  conv=>whnf
  refine ⟨by omega,?_⟩
  conv=>whnf
  rw [opF_loadWf (f:=Rul.vals) (l:=x.rs) (c := .int .i64 x.rs[k.toNat].kind) k.toNat 0 rfl rfl rfl rfl Rul.vlen (by rw [idx_eq,Nat.add_zero]) hkr (by decide) rfl]
  conv=>whnf
  refine ⟨by kernel_rfl,?_⟩
  refine Run.of_wpK (hc w L0 none (fun _ h=>by cases h)) 1000 _ ?_
  conv=>whnf
  cases hkd:(x.rs[k.toNat].kind==1)
  case true =>
   obtain ⟨f1,f2⟩:=fx (.inr (by simpa using hkd))
   conv=>whnf
   rw [f1,f2,show (Z != Z)=false by simp]
   conv=>whnf
   rw [show (Z != Z)=false by simp]
   conv=>whnf
   exact Run.trim (T':=[(4,.ptr 69 0),(9,.ptr 72 0),(11,.ptr 75 0),(13,.ptr 78 0),(15,ii (((i+1:Nat):Nat):Int))]) (M':=[(72,.cells [.opq 70,ii x.n.inp,.opq 71] 25),(75,.cells [.opq 73,ii x.n.inp,.opq 74] 25),(78,.cells [.opq 76,ii x.n.inp,.opq 77] 25),(71,.row 4 x.n.S.length (LA.flatMap Syn.cells) 55),(74,.row 4 x.n.S.length (LBB.flatMap Syn.cells) 55),(77,.row 4 x.n.S.length (LZ.flatMap Syn.cells) 55),(69,.cells [.opq 62,ii x.n.inp,.opq 63,.opq 64,.opq 65,.opq 66,.opq 67,ii K] 45),(68,.pin plp),(64,.rwin 10 x.rs.length (x.rs.flatMap Rul.vals)),(65,.rwin 1 x.pl.length (ints x.pl))]) 79 ⟨⟨rfl,(show 69<79 by decide)⟩,⟨rfl,(show 72<79 by decide)⟩,⟨rfl,(show 75<79 by decide)⟩,⟨rfl,(show 78<79 by decide)⟩,⟨congrArg some (congrArg ii (wrap_succ (by omega))),trivial⟩,trivial⟩ ⟨⟨rfl,by omega,by simp [SObj.sc,SV.scs,SV.sc]⟩,⟨rfl,by omega,by simp [SObj.sc,SV.scs,SV.sc]⟩,⟨rfl,by omega,by simp [SObj.sc,SV.scs,SV.sc]⟩,⟨rfl,by omega,scs_syns _ _⟩,⟨rfl,by omega,scs_syns _ _⟩,⟨rfl,by omega,scs_syns _ _⟩,⟨rfl,by omega,by simp [SObj.sc,SV.scs,SV.sc]⟩,⟨rfl,by omega,fun p hp=>Nat.lt_of_lt_of_le (hcov.1 p hp) (show 68≤79 by decide)⟩,⟨rfl,by omega,trivial⟩,⟨rfl,by omega,trivial⟩,trivial⟩ (fun p hp=>by have:=hLB p hp; omega) (ih trivial)
  have op:=op hk0 (by simpa using hkd)
  obtain ⟨r,hr⟩ : ∃ r,x.rs[k.toNat]=r:=⟨_,rfl⟩
  conv=>whnf
  refine Run.draw (hc w L0 none (fun _ h=>by cases h)) 11 ?_
  rw [show upto 0 11=upto 0 6++(upto 6 1++(upto 7 1++(upto 8 1++upto 9 2))) from rfl]
  simp only [drawK_app]
  conv=>whnf
  refine ⟨by omega,?_⟩
  conv=>whnf
  rw [opF_load1 i rfl rfl rfl rfl (by rw [idx_nat,Nat.mul_one]) (ints_get hip),hkp]
  conv=>whnf
  refine ⟨by omega,?_⟩
  conv=>whnf
  rw [opF_loadW (f:=Rul.vals) (l:=x.rs) k.toNat rfl rfl rfl rfl rfl Rul.vlen (by rw [idx_eq]) hkr,hr]
  conv=>whnf
  refine ⟨by kernel_rfl,?_⟩
  rw [hr] at op
  refine Run.of_wpK (hc w L0 none (fun _ h=>by cases h)) 1000 _ ?_
  conv=>whnf
  cases q1:(A==r.lo)
  case true =>
   conv=>whnf
   exact Run.trim (T':=[(4,.ptr 69 0),(9,.ptr 72 0),(11,.ptr 75 0),(13,.ptr 78 0),(15,ii (((i+1:Nat):Nat):Int))]) (M':=[(72,.cells [.opq 70,ii x.n.inp,.opq 71] 25),(75,.cells [.opq 73,ii x.n.inp,.opq 74] 25),(78,.cells [.opq 76,ii x.n.inp,.opq 77] 25),(71,.row 4 x.n.S.length (LA.flatMap Syn.cells) 55),(74,.row 4 x.n.S.length (LBB.flatMap Syn.cells) 55),(77,.row 4 x.n.S.length (LZ.flatMap Syn.cells) 55),(69,.cells [.opq 62,ii x.n.inp,.opq 63,.opq 64,.opq 65,.opq 66,.opq 67,ii K] 45),(68,.pin plp),(64,.rwin 10 x.rs.length (x.rs.flatMap Rul.vals)),(65,.rwin 1 x.pl.length (ints x.pl))]) 79 ⟨⟨rfl,(show 69<79 by decide)⟩,⟨rfl,(show 72<79 by decide)⟩,⟨rfl,(show 75<79 by decide)⟩,⟨rfl,(show 78<79 by decide)⟩,⟨congrArg some (congrArg ii (wrap_succ (by omega))),trivial⟩,trivial⟩ ⟨⟨rfl,by omega,by simp [SObj.sc,SV.scs,SV.sc]⟩,⟨rfl,by omega,by simp [SObj.sc,SV.scs,SV.sc]⟩,⟨rfl,by omega,by simp [SObj.sc,SV.scs,SV.sc]⟩,⟨rfl,by omega,scs_syns _ _⟩,⟨rfl,by omega,scs_syns _ _⟩,⟨rfl,by omega,scs_syns _ _⟩,⟨rfl,by omega,by simp [SObj.sc,SV.scs,SV.sc]⟩,⟨rfl,by omega,fun p hp=>Nat.lt_of_lt_of_le (hcov.1 p hp) (show 68≤79 by decide)⟩,⟨rfl,by omega,trivial⟩,⟨rfl,by omega,trivial⟩,trivial⟩ (fun p hp=>by have:=hLB p hp; omega) (ih trivial)
  conv=>whnf
  cases q2:(A==r.hi)
  case true =>
   conv=>whnf
   exact Run.trim (T':=[(4,.ptr 69 0),(9,.ptr 72 0),(11,.ptr 75 0),(13,.ptr 78 0),(15,ii (((i+1:Nat):Nat):Int))]) (M':=[(72,.cells [.opq 70,ii x.n.inp,.opq 71] 25),(75,.cells [.opq 73,ii x.n.inp,.opq 74] 25),(78,.cells [.opq 76,ii x.n.inp,.opq 77] 25),(71,.row 4 x.n.S.length (LA.flatMap Syn.cells) 55),(74,.row 4 x.n.S.length (LBB.flatMap Syn.cells) 55),(77,.row 4 x.n.S.length (LZ.flatMap Syn.cells) 55),(69,.cells [.opq 62,ii x.n.inp,.opq 63,.opq 64,.opq 65,.opq 66,.opq 67,ii K] 45),(68,.pin plp),(64,.rwin 10 x.rs.length (x.rs.flatMap Rul.vals)),(65,.rwin 1 x.pl.length (ints x.pl))]) 79 ⟨⟨rfl,(show 69<79 by decide)⟩,⟨rfl,(show 72<79 by decide)⟩,⟨rfl,(show 75<79 by decide)⟩,⟨rfl,(show 78<79 by decide)⟩,⟨congrArg some (congrArg ii (wrap_succ (by omega))),trivial⟩,trivial⟩ ⟨⟨rfl,by omega,by simp [SObj.sc,SV.scs,SV.sc]⟩,⟨rfl,by omega,by simp [SObj.sc,SV.scs,SV.sc]⟩,⟨rfl,by omega,by simp [SObj.sc,SV.scs,SV.sc]⟩,⟨rfl,by omega,scs_syns _ _⟩,⟨rfl,by omega,scs_syns _ _⟩,⟨rfl,by omega,scs_syns _ _⟩,⟨rfl,by omega,by simp [SObj.sc,SV.scs,SV.sc]⟩,⟨rfl,by omega,fun p hp=>Nat.lt_of_lt_of_le (hcov.1 p hp) (show 68≤79 by decide)⟩,⟨rfl,by omega,trivial⟩,⟨rfl,by omega,trivial⟩,trivial⟩ (fun p hp=>by have:=hLB p hp; omega) (ih trivial)
  conv=>whnf
  cases q3:(B==r.lo)
  case true =>
   conv=>whnf
   exact Run.trim (T':=[(4,.ptr 69 0),(9,.ptr 72 0),(11,.ptr 75 0),(13,.ptr 78 0),(15,ii (((i+1:Nat):Nat):Int))]) (M':=[(72,.cells [.opq 70,ii x.n.inp,.opq 71] 25),(75,.cells [.opq 73,ii x.n.inp,.opq 74] 25),(78,.cells [.opq 76,ii x.n.inp,.opq 77] 25),(71,.row 4 x.n.S.length (LA.flatMap Syn.cells) 55),(74,.row 4 x.n.S.length (LBB.flatMap Syn.cells) 55),(77,.row 4 x.n.S.length (LZ.flatMap Syn.cells) 55),(69,.cells [.opq 62,ii x.n.inp,.opq 63,.opq 64,.opq 65,.opq 66,.opq 67,ii K] 45),(68,.pin plp),(64,.rwin 10 x.rs.length (x.rs.flatMap Rul.vals)),(65,.rwin 1 x.pl.length (ints x.pl))]) 79 ⟨⟨rfl,(show 69<79 by decide)⟩,⟨rfl,(show 72<79 by decide)⟩,⟨rfl,(show 75<79 by decide)⟩,⟨rfl,(show 78<79 by decide)⟩,⟨congrArg some (congrArg ii (wrap_succ (by omega))),trivial⟩,trivial⟩ ⟨⟨rfl,by omega,by simp [SObj.sc,SV.scs,SV.sc]⟩,⟨rfl,by omega,by simp [SObj.sc,SV.scs,SV.sc]⟩,⟨rfl,by omega,by simp [SObj.sc,SV.scs,SV.sc]⟩,⟨rfl,by omega,scs_syns _ _⟩,⟨rfl,by omega,scs_syns _ _⟩,⟨rfl,by omega,scs_syns _ _⟩,⟨rfl,by omega,by simp [SObj.sc,SV.scs,SV.sc]⟩,⟨rfl,by omega,fun p hp=>Nat.lt_of_lt_of_le (hcov.1 p hp) (show 68≤79 by decide)⟩,⟨rfl,by omega,trivial⟩,⟨rfl,by omega,trivial⟩,trivial⟩ (fun p hp=>by have:=hLB p hp; omega) (ih trivial)
  conv=>whnf
  cases q4:(B==r.hi)
  case true =>
   conv=>whnf
   exact Run.trim (T':=[(4,.ptr 69 0),(9,.ptr 72 0),(11,.ptr 75 0),(13,.ptr 78 0),(15,ii (((i+1:Nat):Nat):Int))]) (M':=[(72,.cells [.opq 70,ii x.n.inp,.opq 71] 25),(75,.cells [.opq 73,ii x.n.inp,.opq 74] 25),(78,.cells [.opq 76,ii x.n.inp,.opq 77] 25),(71,.row 4 x.n.S.length (LA.flatMap Syn.cells) 55),(74,.row 4 x.n.S.length (LBB.flatMap Syn.cells) 55),(77,.row 4 x.n.S.length (LZ.flatMap Syn.cells) 55),(69,.cells [.opq 62,ii x.n.inp,.opq 63,.opq 64,.opq 65,.opq 66,.opq 67,ii K] 45),(68,.pin plp),(64,.rwin 10 x.rs.length (x.rs.flatMap Rul.vals)),(65,.rwin 1 x.pl.length (ints x.pl))]) 79 ⟨⟨rfl,(show 69<79 by decide)⟩,⟨rfl,(show 72<79 by decide)⟩,⟨rfl,(show 75<79 by decide)⟩,⟨rfl,(show 78<79 by decide)⟩,⟨congrArg some (congrArg ii (wrap_succ (by omega))),trivial⟩,trivial⟩ ⟨⟨rfl,by omega,by simp [SObj.sc,SV.scs,SV.sc]⟩,⟨rfl,by omega,by simp [SObj.sc,SV.scs,SV.sc]⟩,⟨rfl,by omega,by simp [SObj.sc,SV.scs,SV.sc]⟩,⟨rfl,by omega,scs_syns _ _⟩,⟨rfl,by omega,scs_syns _ _⟩,⟨rfl,by omega,scs_syns _ _⟩,⟨rfl,by omega,by simp [SObj.sc,SV.scs,SV.sc]⟩,⟨rfl,by omega,fun p hp=>Nat.lt_of_lt_of_le (hcov.1 p hp) (show 68≤79 by decide)⟩,⟨rfl,by omega,trivial⟩,⟨rfl,by omega,trivial⟩,trivial⟩ (fun p hp=>by have:=hLB p hp; omega) (ih trivial)
  conv=>whnf
  have hfin:A-Z=Z-B:=by
   have q1:A≠r.lo:=by simpa using q1
   have q2:A≠r.hi:=by simpa using q2
   have q3:B≠r.lo:=by simpa using q3
   have q4:B≠r.hi:=by simpa using q4
   omega
  have w1:IntKind.i64.wrap (A-Z)=A-Z:=W_id (by omega) (by omega)
  have w2:IntKind.i64.wrap (Z-B)=Z-B:=W_id (by omega) (by omega)
  rw [w1,w2,hfin,show (Z-B != Z-B)=false by simp]
  conv=>whnf
  exact Run.trim (T':=[(4,.ptr 69 0),(9,.ptr 72 0),(11,.ptr 75 0),(13,.ptr 78 0),(15,ii (((i+1:Nat):Nat):Int))]) (M':=[(72,.cells [.opq 70,ii x.n.inp,.opq 71] 25),(75,.cells [.opq 73,ii x.n.inp,.opq 74] 25),(78,.cells [.opq 76,ii x.n.inp,.opq 77] 25),(71,.row 4 x.n.S.length (LA.flatMap Syn.cells) 55),(74,.row 4 x.n.S.length (LBB.flatMap Syn.cells) 55),(77,.row 4 x.n.S.length (LZ.flatMap Syn.cells) 55),(69,.cells [.opq 62,ii x.n.inp,.opq 63,.opq 64,.opq 65,.opq 66,.opq 67,ii K] 45),(68,.pin plp),(64,.rwin 10 x.rs.length (x.rs.flatMap Rul.vals)),(65,.rwin 1 x.pl.length (ints x.pl))]) 79 ⟨⟨rfl,(show 69<79 by decide)⟩,⟨rfl,(show 72<79 by decide)⟩,⟨rfl,(show 75<79 by decide)⟩,⟨rfl,(show 78<79 by decide)⟩,⟨congrArg some (congrArg ii (wrap_succ (by omega))),trivial⟩,trivial⟩ ⟨⟨rfl,by omega,by simp [SObj.sc,SV.scs,SV.sc]⟩,⟨rfl,by omega,by simp [SObj.sc,SV.scs,SV.sc]⟩,⟨rfl,by omega,by simp [SObj.sc,SV.scs,SV.sc]⟩,⟨rfl,by omega,scs_syns _ _⟩,⟨rfl,by omega,scs_syns _ _⟩,⟨rfl,by omega,scs_syns _ _⟩,⟨rfl,by omega,by simp [SObj.sc,SV.scs,SV.sc]⟩,⟨rfl,by omega,fun p hp=>Nat.lt_of_lt_of_le (hcov.1 p hp) (show 68≤79 by decide)⟩,⟨rfl,by omega,trivial⟩,⟨rfl,by omega,trivial⟩,trivial⟩ (fun p hp=>by have:=hLB p hp; omega) (ih (trivial))
 ·intro hJ
  refine Run.of_wpK (hc w L0 none (fun _ h=>by cases h)) 1000 _ ?_
  conv=>whnf
  rw [decide_eq_false (show ¬ ((x.n.S.length:Nat):Int)<(x.n.S.length:Int) by omega)]
  conv=>whnf
  exact SpecR.intro 68 (by decide) hLB (by decide) hcov rfl rfl trivial trivial
end Go.Proofs.Ytnnlpdgnlccbjaa
namespace Go.Proofs.Ytnnlpdgnlccbjaa
open Go.Sx
set_option maxRecDepth 100000
set_option maxHeartbeats 16000000
def oppR (r:Rul):Rul:={ r with sum:=false }
def oppY (rs:List Rul) (i:Nat):List Rul:=(rs.take i).map oppR++rs.drop i
theorem oppY_len (rs:List Rul) (i:Nat):(oppY rs i).length=rs.length:=by
 unfold oppY; simp; omega
theorem oppY_get (rs:List Rul) {i:Nat} (hi:i<rs.length):(oppY rs i)[i]'(by rw [oppY_len]; exact hi)=rs[i]:=by
 unfold oppY
 rw [List.getElem_append_right (by simp; omega)]
 simp only [List.length_map,List.length_take,List.getElem_drop]
 congr 1
 omega
theorem oppY_succ (rs:List Rul) {i:Nat} (hi:i<rs.length):oppY rs (i+1)=(oppY rs i).set i (oppR rs[i]):=by
 unfold oppY
 rw [List.set_append_right _ _ (by simp; omega)]
 have e:rs.drop i=rs[i]::rs.drop (i+1):=List.drop_eq_getElem_cons hi
 rw [← List.take_append_getElem hi,List.map_append,List.append_assoc,e]
 simp only [List.length_map,List.length_take,show min i rs.length=i by omega,Nat.sub_self,List.set_cons_zero]
 rfl
def repY (R:Nat) (q:Int) (j:Nat):List Int:=List.replicate j q++List.replicate (R-j) 0
theorem repY_len (R:Nat) (q:Int) {j:Nat} (h:j≤R):(repY R q j).length=R:=by
 unfold repY; simp; omega
theorem repY_succ (R:Nat) (q:Int) {j:Nat} (h:j<R):repY R q (j+1)=(repY R q j).set j q:=by
 unfold repY
 rw [List.set_append_right _ _ (by simp)]
 rw [show R-j=(R-(j+1))+1 by omega,List.replicate_succ (n:=R-(j+1))]
 simp only [List.length_replicate,Nat.sub_self,List.set_cons_zero]
 rw [List.replicate_succ',List.append_assoc]; rfl
theorem repY_all (R:Nat) (q:Int):repY R q R=List.replicate R q:=by unfold repY; simp
theorem rwChk_rep {R:Nat} {q:Int} (h0 : -128≤q) (h1:q≤127):rwChk R (List.replicate R q)=0:=by
 unfold rwChk
 split
 ·rfl
 rw [List.length_replicate,if_neg (by simp),rwBad_no (fun y hy=>by
  obtain ⟨_,rfl⟩:=List.mem_replicate.1 hy
  omega)]
 rfl
theorem learnOpposite_walk (w:World) (vN vS:Value) (n:Net) (hn:IsNet w vN vS n) (vR:Value) (rs:List Rul) (hr:RowsAt w vR 10 rs.length (rs.flatMap Rul.vals)) (vP:Value) (pl:List Int) (hpl:RowsAt w vP 1 pl.length (ints pl)) (vE:Value) (l:List Evt) (hE:RowsAt w vE 2 l.length (l.flatMap Evt.vals)) (vZ:Value) (p:List Prz) (hZ:RowsAt w vZ 3 p.length (p.flatMap Prz.vals)) (K:Int) (hrs:rs.length*80≤140737488355328) (rw8:Int) (hrw8:0≤rw8∧rw8≤255) :
  Calls Try.prog 10 #[caseV vN vS vR vP vE vZ n K,.int .u8 rw8] w fun e w'=>e = .returned (.bool true)∧Ext w w':=by
 have hpf:PF.oks Try.prog [(2000,fun _ _=>none)]:=⟨trivial,trivial⟩
 have hc : ∀ w L' rd,(∀ p,rd=some p→p∈L')→Cx.ok ⟨Try.prog,tab,[(2000,fun _ _=>none)],10,Try.f10,[],w,L',rd⟩:=fun w L' rd h=>⟨tab_ok,hpf,Try.func10,mixed,h⟩
 obtain ⟨hn1,hn2⟩:=hn
 have hrows:AllP (fun x:Value × Nat × Nat × List Value=>RowsAt w x.1 x.2.1 x.2.2.1 x.2.2.2) [(vN,8,n.N.length,n.N.flatMap Prm.vals),(vS,4,n.S.length,n.S.flatMap Syn.vals),(vR,10,rs.length,rs.flatMap Rul.vals),(vP,1,pl.length,ints pl),(vE,2,l.length,l.flatMap Evt.vals),(vZ,3,p.length,p.flatMap Prz.vals)]:=⟨hn1,hn2,hr,hpl,hE,hZ,trivial⟩
 have hrl2:rs.length<9223372036854775808:=by omega
 refine Run.startW (tab:=tab) (pf:=[(2000,fun _ _=>none)]) (cuts:=[]) Try.func10 rfl _ hrows [.agg [.opq 0,ii n.inp,.opq 1,.opq 2,.opq 3,.opq 4,.opq 5,ii K],.v (.int .u8 rw8)] [caseV vN vS vR vP vE vZ n K,.int .u8 rw8] [(0,.rwin 8 n.N.length (n.N.flatMap Prm.vals)),(1,.rwin 4 n.S.length (n.S.flatMap Syn.vals)),(2,.rwin 10 rs.length (rs.flatMap Rul.vals)),(3,.rwin 1 pl.length (ints pl)),(4,.rwin 2 l.length (l.flatMap Evt.vals)),(5,.rwin 3 p.length (p.flatMap Prz.vals))] 6 rfl rfl (by show [Value.agg [(SV.opq 0).conc _,.int .i64 n.inp,(SV.opq 1).conc _,(SV.opq 2).conc _,(SV.opq 3).conc _,(SV.opq 4).conc _,(SV.opq 5).conc _,.int .i64 K].toArray,.int .u8 rw8]=_; rw [conc_rows hrows (k:=0) rfl,conc_rows hrows (k:=1) rfl,conc_rows hrows (k:=2) rfl,conc_rows hrows (k:=3) rfl,conc_rows hrows (k:=4) rfl,conc_rows hrows (k:=5) rfl]; rfl) (by simp [SV.scs,SV.sc]) rfl (Run.of_wpK (hc w [] none (fun _ h=>by cases h)) 100 _ ?_)
 conv=>whnf
 refine Run.appendC (hc w [] none (fun _ h=>by cases h)) (j:=7) (e:=10) (te:=36) rfl rfl rfl rfl rfl rfl rfl (fun ρ w1 hW=>hW.rowsAt rfl) (one_rul rs) rfl rfl rfl rfl (by decide) ⟨by omega,by omega⟩ [(6,.cells [.opq 0,ii n.inp,.opq 1,.opq 2,.opq 3,.opq 4,.opq 5,ii K] 45),(0,.rwin 8 n.N.length (n.N.flatMap Prm.vals)),(1,.rwin 4 n.S.length (n.S.flatMap Syn.vals)),(2,.rwin 10 rs.length (rs.flatMap Rul.vals)),(3,.rwin 1 pl.length (ints pl)),(4,.rwin 2 l.length (l.flatMap Evt.vals)),(5,.rwin 3 p.length (p.flatMap Prz.vals))] ⟨⟨rfl,(show 6≠7 by decide)⟩,⟨rfl,(show 0≠7 by decide)⟩,⟨rfl,(show 1≠7 by decide)⟩,⟨rfl,(show 2≠7 by decide)⟩,⟨rfl,(show 3≠7 by decide)⟩,⟨rfl,(show 4≠7 by decide)⟩,⟨rfl,(show 5≠7 by decide)⟩,trivial⟩ ?_
 refine Run.of_wpK (hc w [] none (fun _ h=>by cases h)) 1000 _ ?_
 conv=>whnf
 refine Run.trim (T':=[(1,.v (.int .u8 rw8)),(2,.ptr 6 0),(5,ii (((0:Nat):Nat):Int))]) (M':=[(8,.row 10 rs.length ((oppY rs (0:Nat)).flatMap Rul.cells) 36),(6,.cells [.opq 0,ii n.inp,.opq 1,.opq 8,.opq 3,.opq 4,.opq 5,ii K] 45),(0,.rwin 8 n.N.length (n.N.flatMap Prm.vals)),(1,.rwin 4 n.S.length (n.S.flatMap Syn.vals)),(3,.rwin 1 pl.length (ints pl)),(4,.rwin 2 l.length (l.flatMap Evt.vals)),(5,.rwin 3 p.length (p.flatMap Prz.vals))]) 9 ⟨⟨rfl,trivial⟩,⟨rfl,(show 6<9 by decide)⟩,⟨rfl,trivial⟩,trivial⟩ ⟨⟨by rw [ruls_v]; rfl,by omega,scs_ruls _ _⟩,⟨rfl,by omega,by simp [SObj.sc,SV.scs,SV.sc]⟩,⟨rfl,by omega,trivial⟩,⟨rfl,by omega,trivial⟩,⟨rfl,by omega,trivial⟩,⟨rfl,by omega,trivial⟩,⟨rfl,by omega,trivial⟩,trivial⟩ (fun p hp=>by cases hp) ?_
 refine Run.upToJ (T:=fun i=>[(1,.v (.int .u8 rw8)),(2,.ptr 6 0),(5,ii ((i:Nat):Int))]) (M:=fun i=>[(8,.row 10 rs.length ((oppY rs i).flatMap Rul.cells) 36),(6,.cells [.opq 0,ii n.inp,.opq 1,.opq 8,.opq 3,.opq 4,.opq 5,ii K] 45),(0,.rwin 8 n.N.length (n.N.flatMap Prm.vals)),(1,.rwin 4 n.S.length (n.S.flatMap Syn.vals)),(3,.rwin 1 pl.length (ints pl)),(4,.rwin 2 l.length (l.flatMap Evt.vals)),(5,.rwin 3 p.length (p.flatMap Prz.vals))]) (fun _=>True) (rs.length) (trivial) ?_ ?_
 ·intro i hi hJ ih
  refine Run.of_wpK (hc w [] none (fun _ h=>by cases h)) 1000 _ ?_
  conv=>whnf
  rw [decide_eq_true (show ((i:Nat):Int)<(rs.length:Int) by omega)]
  conv=>whnf
  have hYl:=oppY_len rs i
  have hYg:=oppY_get rs hi
  have hYs:=oppY_succ rs hi
  obtain ⟨Y,hY⟩ : ∃ Y,oppY rs i=Y:=⟨_,rfl⟩
  simp only [hY] at hYl hYg hYs
  rw [hY]
  conv=>whnf
  have hiY:i<Y.length:=by omega
  obtain ⟨r0,hr0⟩ : ∃ r0,rs[i]=r0:=⟨_,rfl⟩
  rw [hr0] at hYg hYs
  refine ⟨by omega,?_⟩
  conv=>whnf
  rw [opF_storeRf (f:=Rul.cells) (l:=Y) i 9 (oppR r0) rfl rfl rfl rfl rfl Rul.clen (by rw [idx_nat]) hiY (by decide) rfl rfl (by rw [hYg]; rfl),← hYs]
  conv=>whnf
  exact Run.trim (T':=[(1,.v (.int .u8 rw8)),(2,.ptr 6 0),(5,ii (((i+1:Nat):Nat):Int))]) (M':=[(8,.row 10 rs.length ((oppY rs (i+1:Nat)).flatMap Rul.cells) 36),(6,.cells [.opq 0,ii n.inp,.opq 1,.opq 8,.opq 3,.opq 4,.opq 5,ii K] 45),(0,.rwin 8 n.N.length (n.N.flatMap Prm.vals)),(1,.rwin 4 n.S.length (n.S.flatMap Syn.vals)),(3,.rwin 1 pl.length (ints pl)),(4,.rwin 2 l.length (l.flatMap Evt.vals)),(5,.rwin 3 p.length (p.flatMap Prz.vals))]) 9 ⟨⟨rfl,trivial⟩,⟨rfl,(show 6<9 by decide)⟩,⟨congrArg some (congrArg ii (wrap_succ (by omega))),trivial⟩,trivial⟩ ⟨⟨rfl,by omega,scs_ruls _ _⟩,⟨rfl,by omega,by simp [SObj.sc,SV.scs,SV.sc]⟩,⟨rfl,by omega,trivial⟩,⟨rfl,by omega,trivial⟩,⟨rfl,by omega,trivial⟩,⟨rfl,by omega,trivial⟩,⟨rfl,by omega,trivial⟩,trivial⟩ (fun p hp=>by cases hp) (ih (trivial))
 ·intro hJ
  refine Run.of_wpK (hc w [] none (fun _ h=>by cases h)) 1000 _ ?_
  conv=>whnf
  rw [decide_eq_false (show ¬ ((rs.length:Nat):Int)<(rs.length:Int) by omega)]
  conv=>whnf
  rw [show oppY rs rs.length=rs.map oppR by unfold oppY; simp]
  have hok0 : ∀ r∈rs.map oppR,r.sum=false:=fun r hr=>by
   obtain ⟨a,_,rfl⟩:=List.mem_map.1 hr
   rfl
  obtain ⟨R',hR'⟩ : ∃ R',rs.map oppR=R':=⟨_,rfl⟩
  have hRl:rs.length=R'.length:=by rw [← hR',List.length_map]
  rw [hR',hRl]
  rw [hR'] at hok0
  conv=>whnf
  refine Run.callE (g:=23) (vs:=[.agg [.opq 0,ii n.inp,.opq 1,.opq 8,.opq 3,.opq 4,.opq 5,ii K]]) (caps:=[]) (.v (.bool (smallB n R' pl l p K))) (fun ρ w1 hW=>by
   have h8:=hW.rowsAtR (i:=8) rfl (by decide)
   rw [ruls_v,concs_v] at h8
   exact small_run _ _ n _ R' _ pl _ l _ p K w1 ⟨hW.rowsAt (i:=0) rfl,hW.rowsAt (i:=1) rfl⟩ h8 (hW.rowsAt (i:=3) rfl) (hW.rowsAt (i:=4) rfl) (hW.rowsAt (i:=5) rfl)) (ent _ _ Try.func23 (by kernel_rfl) rfl) rfl rfl rfl rfl rfl rfl rfl trivial ?_
  cases hsm:smallB n R' pl l p K
  case false =>
   refine Run.of_wpK (hc w [] none (fun _ h=>by cases h)) 1000 _ ?_
   conv=>whnf
   refine Run.callE (g:=14) (vs:=[]) (caps:=[]) (.v (.bool true)) (fun ρ w1 hW=>works_run w1) (ent _ _ Try.func14 (by kernel_rfl) rfl) rfl rfl rfl rfl rfl rfl rfl trivial ?_
   refine Run.of_wpK (hc w [] none (fun _ h=>by cases h)) 1000 _ ?_
   conv=>whnf
   exact ⟨fun ρ w' hW _=>⟨rfl,hW.toExt⟩⟩
  have hok:=small_ok hsm
  obtain ⟨x,rfl,rfl,rfl⟩ : ∃ x:Lnt,x.n=n∧x.rs=R'∧x.pl=pl:=⟨⟨n,R',pl⟩,rfl,rfl,rfl⟩
  obtain ⟨KN,rfl⟩:=Int.eq_ofNat_of_zero_le hok.K0
  have hK1:=hok.K1
  have hK2:KN≤200:=by omega
  have hx:NetOK x:=netOK_of hok.chk
  have hx1:=hx.N2
  have hxN:=hx.N1
  have hx2:=hx.S1
  have hx3:=hx.rl
  have hx4:x.pl.length=x.n.S.length:=hx.lpl
  have hev:=evs_ok (prep_evs hok.prep) ⟨hx.inp0,hx.inp1⟩
  have hpz:=pzs_ok hok.pzs hx3
  have hel:=hok.ev
  have hpl2:=hok.pz
  have hIn : ∀ i:Nat,trIn l i=atIn l i:=fun i=>trIn_eq hev.le hev.t0 i
  have hRw : ∀ i:Nat,trRw x.rs.length p i=atRw x.rs.length p i:=fun i=>trRw_eq hpz.le hpz.t0 hpz.id i
  obtain ⟨mI,hm1,hm2⟩ : ∃ mI:Nat→Nat,(∀ i,i<KN→mI i=i)∧mI KN=KN-1:=⟨fun i=>if i<KN then i else KN-1,fun i hi=>if_pos hi,if_neg (Nat.lt_irrefl _)⟩
  have hm0:mI 0=0:=by
   by_cases h0:0<KN
   ·exact hm1 0 h0
   ·obtain rfl:KN=0:=by omega
    exact hm2
  refine Run.of_wpK (hc w [] none (fun _ h=>by cases h)) 1000 _ ?_
  conv=>whnf
  refine Run.callR (vs:=[.agg [.opq 0,ii x.n.inp,.opq 1],.opq 2,.opq 3]) (caps:=[]) (caps2:=[]) (new_ok x hok.chk) (ent _ _ Try.func25 (by kernel_rfl) rfl) rfl rfl rfl rfl rfl rfl [.agg [.opq 0,ii x.n.inp,.opq 1],.opq 8,.opq 3] rfl ((rq [(2,8),(8,2)])) rfl (fun q hq=>by have inv : ∀ q,q<4→(rq [(2,8),(8,2)]) q<9:=(by decide); exact inv q hq) (fun q hq j hj hne=>by have inj : ∀ i,i<4 → ∀ j,j<4→i≠j→(rq [(2,8),(8,2)]) i≠(rq [(2,8),(8,2)]) j:=(by decide); exact inj q hq j hj hne) (by decide)
   ⟨⟨by omega,trivial,⟨_,rfl,Conv.refl _⟩,.inl rfl,fun _=>by simp⟩,⟨by omega,trivial,⟨_,rfl,Conv.refl _⟩,.inl rfl,fun _=>by simp⟩,⟨by omega,trivial,⟨_,rfl,Conv.row (by decide) (ruls_v _)⟩,.inl rfl,fun _=>by simp⟩,⟨by omega,trivial,⟨_,rfl,Conv.refl _⟩,.inl rfl,fun _=>by simp⟩,trivial⟩ (fun i hi=>by cases hi) (.tup [.ptr 9 0,ii 0]) ((9,.cells [ii 0,.opq 10,ii x.n.inp,.opq 11,.opq 12,.mp 17,.mp 18,.mp 19,.mp 20,.mp 21,.mp 22,.mp 23,.mp 24,.mp 25,.mp 26,.mp 27,.mp 28,.mp 29,.mp 30,.mp 31,.mp 32,.opq 13,.opq 14,.opq 15,.mp 16] 96)::(10,.row 8 x.n.N.length ((x.n.N.flatMap Prm.vals).map .v) 60)::(11,.row 4 x.n.S.length ((x.n.S.flatMap Syn.vals).map .v) 55)::(12,.row 2 x.n.N.length ((List.replicate x.n.N.length ste0).flatMap Ste.cells) 139)::(13,.row 10 x.rs.length ((x.rs.flatMap Rul.vals).map .v) 36)::(14,.row 1 x.pl.length ((ints x.pl).map .v) 3)::(15,.row 4 x.pl.length (x.m0.flatMap Mrk.cells) 84)::(16,.kmap true true x.tot)::(17,.kmap false false [])::(18,.kmap false false [])::(19,.kmap false false [])::(20,.kmap false false [])::(21,.kmap false false [])::(22,.kmap false false [])::(23,.kmap false false [])::(24,.kmap false false [])::(25,.kmap false false [])::(26,.kmap false false [])::(27,.kmap false false [])::(28,.kmap false false [])::(29,.kmap false false [])::(30,.kmap false false [])::(31,.kmap false false [])::(32,.kmap false false [])::(8,.row 10 x.rs.length (x.rs.flatMap Rul.cells) 36)::(6,.cells [.opq 0,ii x.n.inp,.opq 1,.opq 8,.opq 3,.opq 4,.opq 5,ii (KN:Int)] 45)::(0,.rwin 8 x.n.N.length (x.n.N.flatMap Prm.vals))::(1,.rwin 4 x.n.S.length (x.n.S.flatMap Syn.vals))::(3,.rwin 1 x.pl.length (ints x.pl))::(4,.rwin 2 l.length (l.flatMap Evt.vals))::(5,.rwin 3 p.length (p.flatMap Prz.vals))::[]) 33 rfl rfl
   ⟨.inr ⟨4,_,rfl,rfl,rfl,rfl⟩,.inr ⟨5,_,rfl,rfl,by rw [oren_fix (S:=fun _=>False) (fun i hi=>hi.elim) (o := .row 8 x.n.N.length ((x.n.N.flatMap Prm.vals).map .v) 60) (scs_v _ _)],rfl⟩,.inr ⟨6,_,rfl,rfl,by rw [oren_fix (S:=fun _=>False) (fun i hi=>hi.elim) (o := .row 4 x.n.S.length ((x.n.S.flatMap Syn.vals).map .v) 55) (scs_v _ _)],rfl⟩,.inr ⟨7,_,rfl,rfl,by rw [oren_fix (S:=fun _=>False) (fun i hi=>hi.elim) (o := .row 2 x.n.N.length ((List.replicate x.n.N.length ste0).flatMap Ste.cells) 139) (scs_st _ _)],rfl⟩,.inr ⟨8,_,rfl,rfl,by rw [oren_fix (S:=fun _=>False) (fun i hi=>hi.elim) (o := .row 10 x.rs.length ((x.rs.flatMap Rul.vals).map .v) 36) (scs_v _ _)],rfl⟩,.inr ⟨9,_,rfl,rfl,by rw [oren_fix (S:=fun _=>False) (fun i hi=>hi.elim) (o := .row 1 x.pl.length ((ints x.pl).map .v) 3) (scs_v _ _)],rfl⟩,.inr ⟨10,_,rfl,rfl,by rw [oren_fix (S:=fun _=>False) (fun i hi=>hi.elim) (o := .row 4 x.n.S.length (x.m0.flatMap Mrk.cells) 84) (scs_marks _ _),← hx4],rfl⟩,.inr ⟨11,_,rfl,rfl,rfl,rfl⟩,.inr ⟨12,_,rfl,rfl,rfl,rfl⟩,.inr ⟨13,_,rfl,rfl,rfl,rfl⟩,.inr ⟨14,_,rfl,rfl,rfl,rfl⟩,.inr ⟨15,_,rfl,rfl,rfl,rfl⟩,.inr ⟨16,_,rfl,rfl,rfl,rfl⟩,.inr ⟨17,_,rfl,rfl,rfl,rfl⟩,.inr ⟨18,_,rfl,rfl,rfl,rfl⟩,.inr ⟨19,_,rfl,rfl,rfl,rfl⟩,.inr ⟨20,_,rfl,rfl,rfl,rfl⟩,.inr ⟨21,_,rfl,rfl,rfl,rfl⟩,.inr ⟨22,_,rfl,rfl,rfl,rfl⟩,.inr ⟨23,_,rfl,rfl,rfl,rfl⟩,.inr ⟨24,_,rfl,rfl,rfl,rfl⟩,.inr ⟨25,_,rfl,rfl,rfl,rfl⟩,.inr ⟨26,_,rfl,rfl,rfl,rfl⟩,.inr ⟨27,_,rfl,rfl,rfl,rfl⟩,.inl ⟨rfl,by simp⟩,.inl ⟨rfl,by simp⟩,.inl ⟨rfl,by simp⟩,.inl ⟨rfl,by simp⟩,.inl ⟨rfl,by simp⟩,.inl ⟨rfl,by simp⟩,.inl ⟨rfl,by simp⟩,trivial⟩ ?_
  refine Run.of_wpK (hc w [] none (fun _ h=>by cases h)) 1000 _ ?_
  conv=>whnf
  refine Run.trim (T':=[(1,.v (.int .u8 rw8)),(2,.ptr 6 0),(6,.ptr 9 0),(8,ii (((0:Nat):Nat):Int))]) (M':=((9,.cells [ii ((mI (0:Nat):Nat):Int),.opq 10,ii x.n.inp,.opq 11,.opq 12,.mp 17,.mp 18,.mp 19,.mp 20,.mp 21,.mp 22,.mp 23,.mp 24,.mp 25,.mp 26,.mp 27,.mp 28,.mp 29,.mp 30,.mp 31,.mp 32,.opq 13,.opq 14,.opq 15,.mp 16] 96)::(10,.row 8 x.n.N.length ((x.n.N.flatMap Prm.vals).map .v) 60)::(11,.row 4 x.n.S.length ((x.n.S.flatMap Syn.vals).map .v) 55)::(12,.row 2 x.n.N.length ((trS x l p (mI (0:Nat))).st.flatMap Ste.cells) 139)::(13,.row 10 x.rs.length ((x.rs.flatMap Rul.vals).map .v) 36)::(14,.row 1 x.pl.length ((ints x.pl).map .v) 3)::(15,.row 4 x.pl.length ((trS x l p (mI (0:Nat))).m.flatMap Mrk.cells) 84)::(16,.kmap true true x.tot)::(17,.kmap false false (sentE ((trS x l p (mI (0:Nat))).sm 0)))::(18,.kmap false false (sentE ((trS x l p (mI (0:Nat))).sm 1)))::(19,.kmap false false (sentE ((trS x l p (mI (0:Nat))).sm 2)))::(20,.kmap false false (sentE ((trS x l p (mI (0:Nat))).sm 3)))::(21,.kmap false false (sentE ((trS x l p (mI (0:Nat))).sm 4)))::(22,.kmap false false (sentE ((trS x l p (mI (0:Nat))).sm 5)))::(23,.kmap false false (sentE ((trS x l p (mI (0:Nat))).sm 6)))::(24,.kmap false false (sentE ((trS x l p (mI (0:Nat))).sm 7)))::(25,.kmap false false (sentE ((trS x l p (mI (0:Nat))).sm 8)))::(26,.kmap false false (sentE ((trS x l p (mI (0:Nat))).sm 9)))::(27,.kmap false false (sentE ((trS x l p (mI (0:Nat))).sm 10)))::(28,.kmap false false (sentE ((trS x l p (mI (0:Nat))).sm 11)))::(29,.kmap false false (sentE ((trS x l p (mI (0:Nat))).sm 12)))::(30,.kmap false false (sentE ((trS x l p (mI (0:Nat))).sm 13)))::(31,.kmap false false (sentE ((trS x l p (mI (0:Nat))).sm 14)))::(32,.kmap false false (sentE ((trS x l p (mI (0:Nat))).sm 15)))::(8,.row 10 x.rs.length (x.rs.flatMap Rul.cells) 36)::(6,.cells [.opq 0,ii x.n.inp,.opq 1,.opq 8,.opq 3,.opq 4,.opq 5,ii (KN:Int)] 45)::(0,.rwin 8 x.n.N.length (x.n.N.flatMap Prm.vals))::(1,.rwin 4 x.n.S.length (x.n.S.flatMap Syn.vals))::(3,.rwin 1 x.pl.length (ints x.pl))::(4,.rwin 2 l.length (l.flatMap Evt.vals))::(5,.rwin 3 p.length (p.flatMap Prz.vals))::[])) 33 ⟨⟨rfl,trivial⟩,⟨rfl,(show 6<33 by decide)⟩,⟨rfl,(show 9<33 by decide)⟩,⟨rfl,trivial⟩,trivial⟩ ⟨⟨by rw [hm0]; rfl,by omega,by simp [SObj.sc,SV.scs,SV.sc]⟩,⟨rfl,by omega,scs_v _ _⟩,⟨rfl,by omega,scs_v _ _⟩,⟨by rw [hm0]; rfl,by omega,scs_st _ _⟩,⟨rfl,by omega,scs_v _ _⟩,⟨rfl,by omega,scs_v _ _⟩,⟨by rw [hm0]; rfl,by omega,scs_marks _ _⟩,⟨rfl,by omega,trivial⟩,⟨by rw [hm0]; rfl,by omega,trivial⟩,⟨by rw [hm0]; rfl,by omega,trivial⟩,⟨by rw [hm0]; rfl,by omega,trivial⟩,⟨by rw [hm0]; rfl,by omega,trivial⟩,⟨by rw [hm0]; rfl,by omega,trivial⟩,⟨by rw [hm0]; rfl,by omega,trivial⟩,⟨by rw [hm0]; rfl,by omega,trivial⟩,⟨by rw [hm0]; rfl,by omega,trivial⟩,⟨by rw [hm0]; rfl,by omega,trivial⟩,⟨by rw [hm0]; rfl,by omega,trivial⟩,⟨by rw [hm0]; rfl,by omega,trivial⟩,⟨by rw [hm0]; rfl,by omega,trivial⟩,⟨by rw [hm0]; rfl,by omega,trivial⟩,⟨by rw [hm0]; rfl,by omega,trivial⟩,⟨by rw [hm0]; rfl,by omega,trivial⟩,⟨by rw [hm0]; rfl,by omega,trivial⟩,⟨rfl,by omega,scs_ruls _ _⟩,⟨rfl,by omega,by simp [SObj.sc,SV.scs,SV.sc]⟩,⟨rfl,by omega,trivial⟩,⟨rfl,by omega,trivial⟩,⟨rfl,by omega,trivial⟩,⟨rfl,by omega,trivial⟩,⟨rfl,by omega,trivial⟩,trivial⟩ (fun p hp=>by cases hp) ?_
  refine Run.upToJ (T:=fun i=>[(1,.v (.int .u8 rw8)),(2,.ptr 6 0),(6,.ptr 9 0),(8,ii ((i:Nat):Int))]) (M:=fun i=>((9,.cells [ii ((mI i:Nat):Int),.opq 10,ii x.n.inp,.opq 11,.opq 12,.mp 17,.mp 18,.mp 19,.mp 20,.mp 21,.mp 22,.mp 23,.mp 24,.mp 25,.mp 26,.mp 27,.mp 28,.mp 29,.mp 30,.mp 31,.mp 32,.opq 13,.opq 14,.opq 15,.mp 16] 96)::(10,.row 8 x.n.N.length ((x.n.N.flatMap Prm.vals).map .v) 60)::(11,.row 4 x.n.S.length ((x.n.S.flatMap Syn.vals).map .v) 55)::(12,.row 2 x.n.N.length ((trS x l p (mI i)).st.flatMap Ste.cells) 139)::(13,.row 10 x.rs.length ((x.rs.flatMap Rul.vals).map .v) 36)::(14,.row 1 x.pl.length ((ints x.pl).map .v) 3)::(15,.row 4 x.pl.length ((trS x l p (mI i)).m.flatMap Mrk.cells) 84)::(16,.kmap true true x.tot)::(17,.kmap false false (sentE ((trS x l p (mI i)).sm 0)))::(18,.kmap false false (sentE ((trS x l p (mI i)).sm 1)))::(19,.kmap false false (sentE ((trS x l p (mI i)).sm 2)))::(20,.kmap false false (sentE ((trS x l p (mI i)).sm 3)))::(21,.kmap false false (sentE ((trS x l p (mI i)).sm 4)))::(22,.kmap false false (sentE ((trS x l p (mI i)).sm 5)))::(23,.kmap false false (sentE ((trS x l p (mI i)).sm 6)))::(24,.kmap false false (sentE ((trS x l p (mI i)).sm 7)))::(25,.kmap false false (sentE ((trS x l p (mI i)).sm 8)))::(26,.kmap false false (sentE ((trS x l p (mI i)).sm 9)))::(27,.kmap false false (sentE ((trS x l p (mI i)).sm 10)))::(28,.kmap false false (sentE ((trS x l p (mI i)).sm 11)))::(29,.kmap false false (sentE ((trS x l p (mI i)).sm 12)))::(30,.kmap false false (sentE ((trS x l p (mI i)).sm 13)))::(31,.kmap false false (sentE ((trS x l p (mI i)).sm 14)))::(32,.kmap false false (sentE ((trS x l p (mI i)).sm 15)))::(8,.row 10 x.rs.length (x.rs.flatMap Rul.cells) 36)::(6,.cells [.opq 0,ii x.n.inp,.opq 1,.opq 8,.opq 3,.opq 4,.opq 5,ii (KN:Int)] 45)::(0,.rwin 8 x.n.N.length (x.n.N.flatMap Prm.vals))::(1,.rwin 4 x.n.S.length (x.n.S.flatMap Syn.vals))::(3,.rwin 1 x.pl.length (ints x.pl))::(4,.rwin 2 l.length (l.flatMap Evt.vals))::(5,.rwin 3 p.length (p.flatMap Prz.vals))::[])) (fun _=>True) (KN) (trivial) ?_ ?_
  ·intro i hi hJ ih
   refine Run.of_wpK (hc w [] none (fun _ h=>by cases h)) 1000 _ ?_
   conv=>whnf
   rw [decide_eq_true (show ((i:Nat):Int)<(KN:Int) by omega)]
   conv=>whnf
   rw [hm1 i hi]
   obtain ⟨s,hs⟩ : ∃ s,trS x l p i=s:=⟨_,rfl⟩
   have hst:s.tick=(i:Int):=by rw [← hs]; exact trS_tick x l p i (by omega)
   have hinv:LInv x s:=by rw [← hs]; exact trS_inv hx l p i (by omega)
   rw [hs]
   refine Run.callR (vs:=[.agg [.opq 0,ii x.n.inp,.opq 1,.opq 2,.opq 3,.opq 4,.opq 5,ii (KN:Int)],ii ((i:Nat):Int)]) (caps:=[]) (caps2:=[]) (at_spec x.n.inp (KN:Int) ((i:Nat):Int) x.rs l p (by omega) (by omega) (by omega)) (ent _ _ Try.func26 (by kernel_rfl) rfl) rfl rfl rfl rfl rfl rfl [.agg [.opq 0,ii x.n.inp,.opq 1,.opq 8,.opq 3,.opq 4,.opq 5,ii (KN:Int)],ii ((i:Nat):Int)] rfl (fun q=>if q=2 then 8 else if q=8 then 2 else q) rfl (fun q hq=>by have inv : ∀ q,q<6→(fun q=>if q=2 then 8 else if q=8 then 2 else q) q<33:=(by decide); exact inv q hq) (fun q hq j hj hne=>by have inj : ∀ i,i<6 → ∀ j,j<6→i≠j→(fun q=>if q=2 then 8 else if q=8 then 2 else q) i≠(fun q=>if q=2 then 8 else if q=8 then 2 else q) j:=(by decide); exact inj q hq j hj hne) (by decide)
    ⟨⟨by omega,trivial,⟨_,rfl,Conv.row (by decide) (ruls_v _)⟩,.inl rfl,fun _=>by simp⟩,⟨by omega,trivial,⟨_,rfl,Conv.refl _⟩,.inl rfl,fun _=>by simp⟩,⟨by omega,trivial,⟨_,rfl,Conv.refl _⟩,.inl rfl,fun _=>by simp⟩,trivial⟩ (fun i hi=>by cases hi) (.tup [.opq 33,.opq 34]) ((33,.row 1 (atIn l ((i:Nat):Int)).length ((atIn l ((i:Nat):Int)).map fun x=>ii x) 3)::(34,.row 1 x.rs.length ((atRw x.rs.length p ((i:Nat):Int)).map fun x=>ii x) 3)::(9,.cells [ii ((i:Nat):Int),.opq 10,ii x.n.inp,.opq 11,.opq 12,.mp 17,.mp 18,.mp 19,.mp 20,.mp 21,.mp 22,.mp 23,.mp 24,.mp 25,.mp 26,.mp 27,.mp 28,.mp 29,.mp 30,.mp 31,.mp 32,.opq 13,.opq 14,.opq 15,.mp 16] 96)::(10,.row 8 x.n.N.length ((x.n.N.flatMap Prm.vals).map .v) 60)::(11,.row 4 x.n.S.length ((x.n.S.flatMap Syn.vals).map .v) 55)::(12,.row 2 x.n.N.length (s.st.flatMap Ste.cells) 139)::(13,.row 10 x.rs.length ((x.rs.flatMap Rul.vals).map .v) 36)::(14,.row 1 x.pl.length ((ints x.pl).map .v) 3)::(15,.row 4 x.pl.length (s.m.flatMap Mrk.cells) 84)::(16,.kmap true true x.tot)::(17,.kmap false false (sentE (s.sm 0)))::(18,.kmap false false (sentE (s.sm 1)))::(19,.kmap false false (sentE (s.sm 2)))::(20,.kmap false false (sentE (s.sm 3)))::(21,.kmap false false (sentE (s.sm 4)))::(22,.kmap false false (sentE (s.sm 5)))::(23,.kmap false false (sentE (s.sm 6)))::(24,.kmap false false (sentE (s.sm 7)))::(25,.kmap false false (sentE (s.sm 8)))::(26,.kmap false false (sentE (s.sm 9)))::(27,.kmap false false (sentE (s.sm 10)))::(28,.kmap false false (sentE (s.sm 11)))::(29,.kmap false false (sentE (s.sm 12)))::(30,.kmap false false (sentE (s.sm 13)))::(31,.kmap false false (sentE (s.sm 14)))::(32,.kmap false false (sentE (s.sm 15)))::(8,.row 10 x.rs.length (x.rs.flatMap Rul.cells) 36)::(6,.cells [.opq 0,ii x.n.inp,.opq 1,.opq 8,.opq 3,.opq 4,.opq 5,ii (KN:Int)] 45)::(0,.rwin 8 x.n.N.length (x.n.N.flatMap Prm.vals))::(1,.rwin 4 x.n.S.length (x.n.S.flatMap Syn.vals))::(3,.rwin 1 x.pl.length (ints x.pl))::(4,.rwin 2 l.length (l.flatMap Evt.vals))::(5,.rwin 3 p.length (p.flatMap Prz.vals))::[]) 35 rfl rfl
    ⟨.inr ⟨6,_,rfl,rfl,(oren_fix (S:=fun _=>False) (fun i hi=>hi.elim) (o := .row 1 (atIn l ((i:Nat):Int)).length ((atIn l ((i:Nat):Int)).map fun x=>ii x) 3) (scs_i _ _)).symm,rfl⟩,.inr ⟨7,_,rfl,rfl,(oren_fix (S:=fun _=>False) (fun i hi=>hi.elim) (o := .row 1 x.rs.length ((atRw x.rs.length p ((i:Nat):Int)).map fun x=>ii x) 3) (scs_i _ _)).symm,rfl⟩,.inl ⟨rfl,by simp⟩,.inl ⟨rfl,by simp⟩,.inl ⟨rfl,by simp⟩,.inl ⟨rfl,by simp⟩,.inl ⟨rfl,by simp⟩,.inl ⟨rfl,by simp⟩,.inl ⟨rfl,by simp⟩,.inl ⟨rfl,by simp⟩,.inl ⟨rfl,by simp⟩,.inl ⟨rfl,by simp⟩,.inl ⟨rfl,by simp⟩,.inl ⟨rfl,by simp⟩,.inl ⟨rfl,by simp⟩,.inl ⟨rfl,by simp⟩,.inl ⟨rfl,by simp⟩,.inl ⟨rfl,by simp⟩,.inl ⟨rfl,by simp⟩,.inl ⟨rfl,by simp⟩,.inl ⟨rfl,by simp⟩,.inl ⟨rfl,by simp⟩,.inl ⟨rfl,by simp⟩,.inl ⟨rfl,by simp⟩,.inl ⟨rfl,by simp⟩,.inl ⟨rfl,by simp⟩,.inl ⟨rfl,by simp⟩,.inl ⟨rfl,by simp⟩,.inl ⟨rfl,by simp⟩,.inl ⟨rfl,by simp⟩,.inl ⟨rfl,by simp⟩,.inl ⟨rfl,by simp⟩,.inl ⟨rfl,by simp⟩,trivial⟩ ?_
   refine Run.of_wpK (hc w [] none (fun _ h=>by cases h)) 1000 _ ?_
   conv=>whnf
   have hw1:IntKind.i64.wrap ((KN:Int)-1)=(KN:Int)-1:=W_id (by omega) (by omega)
   rw [hw1]
   have hail:=atIn_len l ((i:Nat):Int)
   have hol:=lOut_len x s
   obtain ⟨k,hk⟩ : ∃ k,slotN ((i:Nat):Int)=k:=⟨_,rfl⟩
   have hk16:k<16:=hk▸slotN_lt
   have hsend : ∀ (rr:List Int) (s2:Lst),lN x s (atIn l ((i:Nat):Int)) rr=s2 → ∀ S2,s2.sm k=S2 → ∀ j,s2.sm j=if j=k then S2 else s.sm j:=fun rr s2 h1 S2 h2 j=>by
    have e : ∀ j,s2.sm j=if j=k then sendL (lB x s).2.2 (atIn l ((i:Nat):Int)) else s.sm j:=fun j=>by
     rw [← h1,← hk,← hst]; rfl
    rw [← h2,e j,e k,if_pos rfl]
   have hrl:=atRw_len x.rs.length p ((i:Nat):Int)
   cases hlast:decide (((i:Nat):Int)<(KN:Int)-1)
   case true =>
    have hil:=of_decide_eq_true hlast
    conv=>whnf
    obtain ⟨o,ho⟩ : ∃ o,lOut x s=o:=⟨_,rfl⟩
    have hckT:stepChk x s (atIn l ((i:Nat):Int)) (atRw x.rs.length p ((i:Nat):Int))=0:=by
     unfold stepChk
     rw [if_neg (by omega),hev.ins ⟨hx.inp0,hx.inp1⟩,hpz.rw]; rfl
    have hstepT:=Step_ok x s (atIn l ((i:Nat):Int)) (atRw x.rs.length p ((i:Nat):Int)) hx hinv hckT (by omega) (by rw [hrl]; omega)
    rw [rwOf_at hrl] at hstepT
    obtain ⟨s2,hs2⟩ : ∃ s2,lN x s (atIn l ((i:Nat):Int)) (atRw x.rs.length p ((i:Nat):Int))=s2:=⟨_,rfl⟩
    rw [hs2] at hstepT
    unfold lM lC at hstepT
    rw [hst,hrl,show W (((i:Nat):Int)+1)=((i+1:Nat):Int) from wrap_succ (by omega),hk,ho] at hstepT
    obtain ⟨S2,hS2⟩ : ∃ S2,s2.sm k=S2:=⟨_,rfl⟩
    rw [hS2] at hstepT
    rw [ho] at hol
    have hs3:trS x l p (i+1)=s2:=by
     rw [← hs2,← hs]
     show lN x (trS x l p i) (trIn l i) (trRw x.rs.length p i)=_
     rw [hIn,hRw]
    have hssm:=hsend _ _ hs2 _ hS2
    have hisn : ∀ k:Nat,(k≠9∧k≠12∧k≠15) → ∀ q∈([0,3,6]:List Nat),(fun q=>if q<24 then 9+q else if q=24 then 33 else 34) q≠k:=by
     intro k hk q hq
     have hq2:q=0∨q=3∨q=6:=by simpa using hq
     rcases hq2 with rfl | rfl | rfl
     ·exact hk.1.symm
     ·exact hk.2.1.symm
     ·exact hk.2.2.symm
    refine Run.callR (vs:=[.ptr 0 0,.opq 24,.opq 25]) (caps:=[]) (caps2:=[]) hstepT (ent _ _ Try.func27 (by kernel_rfl) rfl) rfl rfl rfl rfl rfl rfl [.ptr 9 0,.opq 33,.opq 34] rfl (fun q=>if q<24 then 9+q else if q=24 then 33 else 34) rfl (fun q hq=>by have inv : ∀ q,q<26→(fun q=>if q<24 then 9+q else if q=24 then 33 else 34) q<35:=(by decide); exact inv q hq) (fun q hq j hj hne=>by have inj : ∀ i,i<26 → ∀ j,j<26→i≠j→(fun q=>if q<24 then 9+q else if q=24 then 33 else 34) i≠(fun q=>if q<24 then 9+q else if q=24 then 33 else 34) j:=(by decide); exact inj q hq j hj hne) (by decide)
     ⟨⟨by omega,by simp [lcells,SObj.sc,SV.scs,SV.sc],⟨_,rfl,Conv.refl _⟩,.inr (by simp),fun h=>by cases h⟩,⟨by omega,trivial,⟨_,rfl,Conv.row (by decide) rfl⟩,.inl rfl,fun _=>by simp⟩,⟨by omega,trivial,⟨_,rfl,Conv.row (by decide) rfl⟩,.inl rfl,fun _=>by simp⟩,⟨by omega,scs_st _ _,⟨_,rfl,by rw [oren_fix (S:=fun _=>False) (fun i hi=>hi.elim) (o := .row 2 x.n.N.length (s.st.flatMap Ste.cells) 139) (scs_st _ _)]; exact Conv.refl _⟩,.inr (by simp),fun h=>by cases h⟩,⟨by omega,trivial,⟨_,rfl,Conv.row (by decide) rfl⟩,.inl rfl,fun _=>by simp⟩,⟨by omega,trivial,⟨_,rfl,Conv.row (by decide) rfl⟩,.inl rfl,fun _=>by simp⟩,⟨by omega,scs_marks _ _,⟨_,rfl,by rw [oren_fix (S:=fun _=>False) (fun i hi=>hi.elim) (o := .row 4 x.pl.length (s.m.flatMap Mrk.cells) 84) (scs_marks _ _)]; exact Conv.refl _⟩,.inr (by simp),fun h=>by cases h⟩,⟨by omega,trivial,⟨_,rfl,Conv.map⟩,.inl rfl,fun _=>by simp⟩,⟨by omega,trivial,⟨_,rfl,Conv.map⟩,.inl rfl,fun _=>by simp⟩,⟨by omega,trivial,⟨_,rfl,Conv.map⟩,.inl rfl,fun _=>by simp⟩,⟨by omega,trivial,⟨_,rfl,Conv.map⟩,.inl rfl,fun _=>by simp⟩,⟨by omega,trivial,⟨_,rfl,Conv.map⟩,.inl rfl,fun _=>by simp⟩,⟨by omega,trivial,⟨_,rfl,Conv.map⟩,.inl rfl,fun _=>by simp⟩,⟨by omega,trivial,⟨_,rfl,Conv.map⟩,.inl rfl,fun _=>by simp⟩,⟨by omega,trivial,⟨_,rfl,Conv.map⟩,.inl rfl,fun _=>by simp⟩,⟨by omega,trivial,⟨_,rfl,Conv.map⟩,.inl rfl,fun _=>by simp⟩,⟨by omega,trivial,⟨_,rfl,Conv.map⟩,.inl rfl,fun _=>by simp⟩,⟨by omega,trivial,⟨_,rfl,Conv.map⟩,.inl rfl,fun _=>by simp⟩,⟨by omega,trivial,⟨_,rfl,Conv.map⟩,.inl rfl,fun _=>by simp⟩,⟨by omega,trivial,⟨_,rfl,Conv.map⟩,.inl rfl,fun _=>by simp⟩,⟨by omega,trivial,⟨_,rfl,Conv.map⟩,.inl rfl,fun _=>by simp⟩,⟨by omega,trivial,⟨_,rfl,Conv.map⟩,.inl rfl,fun _=>by simp⟩,⟨by omega,trivial,⟨_,rfl,Conv.map⟩,.inl rfl,fun _=>by simp⟩,⟨by omega,trivial,⟨_,rfl,Conv.map⟩,.inl rfl,fun _=>by simp⟩,⟨by omega,trivial,⟨_,rfl,Conv.row (by decide) (ints_iv _)⟩,.inl rfl,fun _=>by simp⟩,⟨by omega,trivial,⟨_,rfl,Conv.row (by decide) (ints_iv _)⟩,.inl rfl,fun _=>by simp⟩,trivial⟩ (fun q hq=>by
      have hq2:q=0∨q=3∨q=6:=by simpa using hq
      rcases hq2 with rfl | rfl | rfl <;> exact ⟨by omega,_,rfl⟩) (.tup [.opq 36,ii 0]) ((35,.kmap false true (sentE S2))::(36,.row 1 o.length (o.map fun x=>ii x) 3)::(9,(SObj.cells (lcells (ii ((i+1:Nat):Int)) x.n.inp (fun j => .mp (if j=k then 26 else 8+j)) (.mp 7)) 96).ren (shR (fun q=>if q<24 then 9+q else if q=24 then 33 else 34) 26 35))::(10,.row 8 x.n.N.length ((x.n.N.flatMap Prm.vals).map .v) 60)::(11,.row 4 x.n.S.length ((x.n.S.flatMap Syn.vals).map .v) 55)::(12,.row 2 x.n.N.length (s2.st.flatMap Ste.cells) 139)::(13,.row 10 x.rs.length ((x.rs.flatMap Rul.vals).map .v) 36)::(14,.row 1 x.pl.length ((ints x.pl).map .v) 3)::(15,.row 4 x.pl.length (s2.m.flatMap Mrk.cells) 84)::(16,.kmap true true x.tot)::(17,.kmap false false (sentE (s.sm 0)))::(18,.kmap false false (sentE (s.sm 1)))::(19,.kmap false false (sentE (s.sm 2)))::(20,.kmap false false (sentE (s.sm 3)))::(21,.kmap false false (sentE (s.sm 4)))::(22,.kmap false false (sentE (s.sm 5)))::(23,.kmap false false (sentE (s.sm 6)))::(24,.kmap false false (sentE (s.sm 7)))::(25,.kmap false false (sentE (s.sm 8)))::(26,.kmap false false (sentE (s.sm 9)))::(27,.kmap false false (sentE (s.sm 10)))::(28,.kmap false false (sentE (s.sm 11)))::(29,.kmap false false (sentE (s.sm 12)))::(30,.kmap false false (sentE (s.sm 13)))::(31,.kmap false false (sentE (s.sm 14)))::(32,.kmap false false (sentE (s.sm 15)))::(33,.row 1 (atIn l ((i:Nat):Int)).length ((atIn l ((i:Nat):Int)).map fun x=>ii x) 3)::(34,.row 1 x.rs.length ((atRw x.rs.length p ((i:Nat):Int)).map fun x=>ii x) 3)::(8,.row 10 x.rs.length (x.rs.flatMap Rul.cells) 36)::(6,.cells [.opq 0,ii x.n.inp,.opq 1,.opq 8,.opq 3,.opq 4,.opq 5,ii (KN:Int)] 45)::(0,.rwin 8 x.n.N.length (x.n.N.flatMap Prm.vals))::(1,.rwin 4 x.n.S.length (x.n.S.flatMap Syn.vals))::(3,.rwin 1 x.pl.length (ints x.pl))::(4,.rwin 2 l.length (l.flatMap Evt.vals))::(5,.rwin 3 p.length (p.flatMap Prz.vals))::[]) 37 rfl rfl
     ⟨.inr ⟨26,_,rfl,rfl,rfl,rfl⟩,.inr ⟨27,_,rfl,rfl,(oren_fix (S:=fun _=>False) (fun i hi=>hi.elim) (o := .row 1 o.length (o.map fun x=>ii x) 3) (scs_i _ _)).symm,rfl⟩,.inr ⟨0,_,rfl,rfl,rfl,rfl⟩,.inl ⟨rfl,hisn 10 (by decide)⟩,.inl ⟨rfl,hisn 11 (by decide)⟩,.inr ⟨3,_,rfl,rfl,(oren_fix (S:=fun _=>False) (fun i hi=>hi.elim) (o := .row 2 x.n.N.length (s2.st.flatMap Ste.cells) 139) (scs_st _ _)).symm,rfl⟩,.inl ⟨rfl,hisn 13 (by decide)⟩,.inl ⟨rfl,hisn 14 (by decide)⟩,.inr ⟨6,_,rfl,rfl,(oren_fix (S:=fun _=>False) (fun i hi=>hi.elim) (o := .row 4 x.pl.length (s2.m.flatMap Mrk.cells) 84) (scs_marks _ _)).symm,rfl⟩,.inl ⟨rfl,hisn 16 (by decide)⟩,.inl ⟨rfl,hisn 17 (by decide)⟩,.inl ⟨rfl,hisn 18 (by decide)⟩,.inl ⟨rfl,hisn 19 (by decide)⟩,.inl ⟨rfl,hisn 20 (by decide)⟩,.inl ⟨rfl,hisn 21 (by decide)⟩,.inl ⟨rfl,hisn 22 (by decide)⟩,.inl ⟨rfl,hisn 23 (by decide)⟩,.inl ⟨rfl,hisn 24 (by decide)⟩,.inl ⟨rfl,hisn 25 (by decide)⟩,.inl ⟨rfl,hisn 26 (by decide)⟩,.inl ⟨rfl,hisn 27 (by decide)⟩,.inl ⟨rfl,hisn 28 (by decide)⟩,.inl ⟨rfl,hisn 29 (by decide)⟩,.inl ⟨rfl,hisn 30 (by decide)⟩,.inl ⟨rfl,hisn 31 (by decide)⟩,.inl ⟨rfl,hisn 32 (by decide)⟩,.inl ⟨rfl,hisn 33 (by decide)⟩,.inl ⟨rfl,hisn 34 (by decide)⟩,.inl ⟨rfl,hisn 8 (by decide)⟩,.inl ⟨rfl,hisn 6 (by decide)⟩,.inl ⟨rfl,hisn 0 (by decide)⟩,.inl ⟨rfl,hisn 1 (by decide)⟩,.inl ⟨rfl,hisn 3 (by decide)⟩,.inl ⟨rfl,hisn 4 (by decide)⟩,.inl ⟨rfl,hisn 5 (by decide)⟩,trivial⟩ ?_
    refine Run.weak (M':=((35,.kmap false false (sentE S2))::(36,.row 1 o.length (o.map fun x=>ii x) 3)::(9,(SObj.cells (lcells (ii ((i+1:Nat):Int)) x.n.inp (fun j => .mp (if j=k then 26 else 8+j)) (.mp 7)) 96).ren (shR (fun q=>if q<24 then 9+q else if q=24 then 33 else 34) 26 35))::(10,.row 8 x.n.N.length ((x.n.N.flatMap Prm.vals).map .v) 60)::(11,.row 4 x.n.S.length ((x.n.S.flatMap Syn.vals).map .v) 55)::(12,.row 2 x.n.N.length (s2.st.flatMap Ste.cells) 139)::(13,.row 10 x.rs.length ((x.rs.flatMap Rul.vals).map .v) 36)::(14,.row 1 x.pl.length ((ints x.pl).map .v) 3)::(15,.row 4 x.pl.length (s2.m.flatMap Mrk.cells) 84)::(16,.kmap true true x.tot)::(17,.kmap false false (sentE (s.sm 0)))::(18,.kmap false false (sentE (s.sm 1)))::(19,.kmap false false (sentE (s.sm 2)))::(20,.kmap false false (sentE (s.sm 3)))::(21,.kmap false false (sentE (s.sm 4)))::(22,.kmap false false (sentE (s.sm 5)))::(23,.kmap false false (sentE (s.sm 6)))::(24,.kmap false false (sentE (s.sm 7)))::(25,.kmap false false (sentE (s.sm 8)))::(26,.kmap false false (sentE (s.sm 9)))::(27,.kmap false false (sentE (s.sm 10)))::(28,.kmap false false (sentE (s.sm 11)))::(29,.kmap false false (sentE (s.sm 12)))::(30,.kmap false false (sentE (s.sm 13)))::(31,.kmap false false (sentE (s.sm 14)))::(32,.kmap false false (sentE (s.sm 15)))::(33,.row 1 (atIn l ((i:Nat):Int)).length ((atIn l ((i:Nat):Int)).map fun x=>ii x) 3)::(34,.row 1 x.rs.length ((atRw x.rs.length p ((i:Nat):Int)).map fun x=>ii x) 3)::(8,.row 10 x.rs.length (x.rs.flatMap Rul.cells) 36)::(6,.cells [.opq 0,ii x.n.inp,.opq 1,.opq 8,.opq 3,.opq 4,.opq 5,ii (KN:Int)] 45)::(0,.rwin 8 x.n.N.length (x.n.N.flatMap Prm.vals))::(1,.rwin 4 x.n.S.length (x.n.S.flatMap Syn.vals))::(3,.rwin 1 x.pl.length (ints x.pl))::(4,.rwin 2 l.length (l.flatMap Evt.vals))::(5,.rwin 3 p.length (p.flatMap Prz.vals))::[])) ⟨⟨_,rfl,.inr ⟨_,_,rfl,rfl⟩⟩,⟨_,rfl,.inl rfl⟩,⟨_,rfl,.inl rfl⟩,⟨_,rfl,.inl rfl⟩,⟨_,rfl,.inl rfl⟩,⟨_,rfl,.inl rfl⟩,⟨_,rfl,.inl rfl⟩,⟨_,rfl,.inl rfl⟩,⟨_,rfl,.inl rfl⟩,⟨_,rfl,.inl rfl⟩,⟨_,rfl,.inl rfl⟩,⟨_,rfl,.inl rfl⟩,⟨_,rfl,.inl rfl⟩,⟨_,rfl,.inl rfl⟩,⟨_,rfl,.inl rfl⟩,⟨_,rfl,.inl rfl⟩,⟨_,rfl,.inl rfl⟩,⟨_,rfl,.inl rfl⟩,⟨_,rfl,.inl rfl⟩,⟨_,rfl,.inl rfl⟩,⟨_,rfl,.inl rfl⟩,⟨_,rfl,.inl rfl⟩,⟨_,rfl,.inl rfl⟩,⟨_,rfl,.inl rfl⟩,⟨_,rfl,.inl rfl⟩,⟨_,rfl,.inl rfl⟩,⟨_,rfl,.inl rfl⟩,⟨_,rfl,.inl rfl⟩,⟨_,rfl,.inl rfl⟩,⟨_,rfl,.inl rfl⟩,⟨_,rfl,.inl rfl⟩,⟨_,rfl,.inl rfl⟩,⟨_,rfl,.inl rfl⟩,⟨_,rfl,.inl rfl⟩,⟨_,rfl,.inl rfl⟩,trivial⟩ ?_
    refine Run.trimQ (T':=[(1,.v (.int .u8 rw8)),(2,.ptr 6 0),(6,.ptr 9 0),(8,ii ((i:Nat):Int)),(79,.tup [.opq 36,ii 0])]) (M':=((36,.row 1 o.length (o.map fun x=>ii x) 3)::(9,.cells [ii ((i+1:Nat):Int),.opq 10,ii x.n.inp,.opq 11,.opq 12,.mp 17,.mp 18,.mp 19,.mp 20,.mp 21,.mp 22,.mp 23,.mp 24,.mp 25,.mp 26,.mp 27,.mp 28,.mp 29,.mp 30,.mp 31,.mp 32,.opq 13,.opq 14,.opq 15,.mp 16] 96)::(10,.row 8 x.n.N.length ((x.n.N.flatMap Prm.vals).map .v) 60)::(11,.row 4 x.n.S.length ((x.n.S.flatMap Syn.vals).map .v) 55)::(12,.row 2 x.n.N.length (s2.st.flatMap Ste.cells) 139)::(13,.row 10 x.rs.length ((x.rs.flatMap Rul.vals).map .v) 36)::(14,.row 1 x.pl.length ((ints x.pl).map .v) 3)::(15,.row 4 x.pl.length (s2.m.flatMap Mrk.cells) 84)::(16,.kmap true true x.tot)::(17,.kmap false false (sentE (s2.sm 0)))::(18,.kmap false false (sentE (s2.sm 1)))::(19,.kmap false false (sentE (s2.sm 2)))::(20,.kmap false false (sentE (s2.sm 3)))::(21,.kmap false false (sentE (s2.sm 4)))::(22,.kmap false false (sentE (s2.sm 5)))::(23,.kmap false false (sentE (s2.sm 6)))::(24,.kmap false false (sentE (s2.sm 7)))::(25,.kmap false false (sentE (s2.sm 8)))::(26,.kmap false false (sentE (s2.sm 9)))::(27,.kmap false false (sentE (s2.sm 10)))::(28,.kmap false false (sentE (s2.sm 11)))::(29,.kmap false false (sentE (s2.sm 12)))::(30,.kmap false false (sentE (s2.sm 13)))::(31,.kmap false false (sentE (s2.sm 14)))::(32,.kmap false false (sentE (s2.sm 15)))::(33,.row 1 (atIn l ((i:Nat):Int)).length ((atIn l ((i:Nat):Int)).map fun x=>ii x) 3)::(34,.row 1 x.rs.length ((atRw x.rs.length p ((i:Nat):Int)).map fun x=>ii x) 3)::(8,.row 10 x.rs.length (x.rs.flatMap Rul.cells) 36)::(6,.cells [.opq 0,ii x.n.inp,.opq 1,.opq 8,.opq 3,.opq 4,.opq 5,ii (KN:Int)] 45)::(0,.rwin 8 x.n.N.length (x.n.N.flatMap Prm.vals))::(1,.rwin 4 x.n.S.length (x.n.S.flatMap Syn.vals))::(3,.rwin 1 x.pl.length (ints x.pl))::(4,.rwin 2 l.length (l.flatMap Evt.vals))::(5,.rwin 3 p.length (p.flatMap Prz.vals))::[])) (rq [(17+k,35),(35,17+k)]) 37 ?_ ?_ ?_ ?_ ?_
    ·intro i hi j hj hne he
     have inv : ∀ i,i<37→rq [(17+k,35),(35,17+k)] (rq [(17+k,35),(35,17+k)] i)=i:=by rcases lt16 hk16 with rfl | rfl | rfl | rfl | rfl | rfl | rfl | rfl | rfl | rfl | rfl | rfl | rfl | rfl | rfl | rfl <;> decide
     exact hne (by rw [← inv i hi,he,inv j hj])
    ·rcases lt16 hk16 with rfl | rfl | rfl | rfl | rfl | rfl | rfl | rfl | rfl | rfl | rfl | rfl | rfl | rfl | rfl | rfl <;> exact ⟨⟨rfl,trivial⟩,⟨rfl,(show 6<37 by decide)⟩,⟨rfl,(show 9<37 by decide)⟩,⟨rfl,trivial⟩,⟨rfl,(show 36<37 by decide),trivial,trivial⟩,trivial⟩
    ·rcases lt16 hk16 with rfl | rfl | rfl | rfl | rfl | rfl | rfl | rfl | rfl | rfl | rfl | rfl | rfl | rfl | rfl | rfl <;> exact ⟨⟨congrArg some (oren_fix (S:=fun _=>False) (fun i hi=>hi.elim) (o := .row 1 o.length (o.map fun x=>ii x) 3) (scs_i _ _)).symm,by omega,scs_i _ _⟩,⟨rfl,by omega,by simp [SObj.sc,SV.scs,SV.sc]⟩,⟨congrArg some (oren_fix (S:=fun _=>False) (fun i hi=>hi.elim) (o := .row 8 x.n.N.length ((x.n.N.flatMap Prm.vals).map .v) 60) (scs_v _ _)).symm,by omega,scs_v _ _⟩,⟨congrArg some (oren_fix (S:=fun _=>False) (fun i hi=>hi.elim) (o := .row 4 x.n.S.length ((x.n.S.flatMap Syn.vals).map .v) 55) (scs_v _ _)).symm,by omega,scs_v _ _⟩,⟨congrArg some (oren_fix (S:=fun _=>False) (fun i hi=>hi.elim) (o := .row 2 x.n.N.length (s2.st.flatMap Ste.cells) 139) (scs_st _ _)).symm,by omega,scs_st _ _⟩,⟨congrArg some (oren_fix (S:=fun _=>False) (fun i hi=>hi.elim) (o := .row 10 x.rs.length ((x.rs.flatMap Rul.vals).map .v) 36) (scs_v _ _)).symm,by omega,scs_v _ _⟩,⟨congrArg some (oren_fix (S:=fun _=>False) (fun i hi=>hi.elim) (o := .row 1 x.pl.length ((ints x.pl).map .v) 3) (scs_v _ _)).symm,by omega,scs_v _ _⟩,⟨congrArg some (oren_fix (S:=fun _=>False) (fun i hi=>hi.elim) (o := .row 4 x.pl.length (s2.m.flatMap Mrk.cells) 84) (scs_marks _ _)).symm,by omega,scs_marks _ _⟩,⟨rfl,by omega,trivial⟩,⟨by rw [hssm]; rfl,by omega,trivial⟩,⟨by rw [hssm]; rfl,by omega,trivial⟩,⟨by rw [hssm]; rfl,by omega,trivial⟩,⟨by rw [hssm]; rfl,by omega,trivial⟩,⟨by rw [hssm]; rfl,by omega,trivial⟩,⟨by rw [hssm]; rfl,by omega,trivial⟩,⟨by rw [hssm]; rfl,by omega,trivial⟩,⟨by rw [hssm]; rfl,by omega,trivial⟩,⟨by rw [hssm]; rfl,by omega,trivial⟩,⟨by rw [hssm]; rfl,by omega,trivial⟩,⟨by rw [hssm]; rfl,by omega,trivial⟩,⟨by rw [hssm]; rfl,by omega,trivial⟩,⟨by rw [hssm]; rfl,by omega,trivial⟩,⟨by rw [hssm]; rfl,by omega,trivial⟩,⟨by rw [hssm]; rfl,by omega,trivial⟩,⟨by rw [hssm]; rfl,by omega,trivial⟩,⟨congrArg some (oren_fix (S:=fun _=>False) (fun i hi=>hi.elim) (o := .row 1 (atIn l ((i:Nat):Int)).length ((atIn l ((i:Nat):Int)).map fun x=>ii x) 3) (scs_i _ _)).symm,by omega,scs_i _ _⟩,⟨congrArg some (oren_fix (S:=fun _=>False) (fun i hi=>hi.elim) (o := .row 1 x.rs.length ((atRw x.rs.length p ((i:Nat):Int)).map fun x=>ii x) 3) (scs_i _ _)).symm,by omega,scs_i _ _⟩,⟨congrArg some (oren_fix (S:=fun _=>False) (fun i hi=>hi.elim) (o := .row 10 x.rs.length (x.rs.flatMap Rul.cells) 36) (scs_ruls _ _)).symm,by omega,scs_ruls _ _⟩,⟨rfl,by omega,by simp [SObj.sc,SV.scs,SV.sc]⟩,⟨rfl,by omega,trivial⟩,⟨rfl,by omega,trivial⟩,⟨rfl,by omega,trivial⟩,⟨rfl,by omega,trivial⟩,⟨rfl,by omega,trivial⟩,trivial⟩
    ·intro p hp; cases hp
    refine Run.of_wpK (hc w [] none (fun _ h=>by cases h)) 1000 _ ?_
    conv=>whnf
    rw [hm1 (i+1) (by omega),hs3] at ih
    exact Run.trim (T':=[(1,.v (.int .u8 rw8)),(2,.ptr 6 0),(6,.ptr 9 0),(8,ii (((i+1:Nat):Nat):Int))]) (M':=((9,.cells [ii ((i+1:Nat):Int),.opq 10,ii x.n.inp,.opq 11,.opq 12,.mp 17,.mp 18,.mp 19,.mp 20,.mp 21,.mp 22,.mp 23,.mp 24,.mp 25,.mp 26,.mp 27,.mp 28,.mp 29,.mp 30,.mp 31,.mp 32,.opq 13,.opq 14,.opq 15,.mp 16] 96)::(10,.row 8 x.n.N.length ((x.n.N.flatMap Prm.vals).map .v) 60)::(11,.row 4 x.n.S.length ((x.n.S.flatMap Syn.vals).map .v) 55)::(12,.row 2 x.n.N.length (s2.st.flatMap Ste.cells) 139)::(13,.row 10 x.rs.length ((x.rs.flatMap Rul.vals).map .v) 36)::(14,.row 1 x.pl.length ((ints x.pl).map .v) 3)::(15,.row 4 x.pl.length (s2.m.flatMap Mrk.cells) 84)::(16,.kmap true true x.tot)::(17,.kmap false false (sentE (s2.sm 0)))::(18,.kmap false false (sentE (s2.sm 1)))::(19,.kmap false false (sentE (s2.sm 2)))::(20,.kmap false false (sentE (s2.sm 3)))::(21,.kmap false false (sentE (s2.sm 4)))::(22,.kmap false false (sentE (s2.sm 5)))::(23,.kmap false false (sentE (s2.sm 6)))::(24,.kmap false false (sentE (s2.sm 7)))::(25,.kmap false false (sentE (s2.sm 8)))::(26,.kmap false false (sentE (s2.sm 9)))::(27,.kmap false false (sentE (s2.sm 10)))::(28,.kmap false false (sentE (s2.sm 11)))::(29,.kmap false false (sentE (s2.sm 12)))::(30,.kmap false false (sentE (s2.sm 13)))::(31,.kmap false false (sentE (s2.sm 14)))::(32,.kmap false false (sentE (s2.sm 15)))::(8,.row 10 x.rs.length (x.rs.flatMap Rul.cells) 36)::(6,.cells [.opq 0,ii x.n.inp,.opq 1,.opq 8,.opq 3,.opq 4,.opq 5,ii (KN:Int)] 45)::(0,.rwin 8 x.n.N.length (x.n.N.flatMap Prm.vals))::(1,.rwin 4 x.n.S.length (x.n.S.flatMap Syn.vals))::(3,.rwin 1 x.pl.length (ints x.pl))::(4,.rwin 2 l.length (l.flatMap Evt.vals))::(5,.rwin 3 p.length (p.flatMap Prz.vals))::[])) 33 ⟨⟨rfl,trivial⟩,⟨rfl,(show 6<33 by decide)⟩,⟨rfl,(show 9<33 by decide)⟩,⟨congrArg some (congrArg ii (wrap_succ (by omega))),trivial⟩,trivial⟩ ⟨⟨rfl,by omega,by simp [SObj.sc,SV.scs,SV.sc]⟩,⟨rfl,by omega,scs_v _ _⟩,⟨rfl,by omega,scs_v _ _⟩,⟨rfl,by omega,scs_st _ _⟩,⟨rfl,by omega,scs_v _ _⟩,⟨rfl,by omega,scs_v _ _⟩,⟨rfl,by omega,scs_marks _ _⟩,⟨rfl,by omega,trivial⟩,⟨rfl,by omega,trivial⟩,⟨rfl,by omega,trivial⟩,⟨rfl,by omega,trivial⟩,⟨rfl,by omega,trivial⟩,⟨rfl,by omega,trivial⟩,⟨rfl,by omega,trivial⟩,⟨rfl,by omega,trivial⟩,⟨rfl,by omega,trivial⟩,⟨rfl,by omega,trivial⟩,⟨rfl,by omega,trivial⟩,⟨rfl,by omega,trivial⟩,⟨rfl,by omega,trivial⟩,⟨rfl,by omega,trivial⟩,⟨rfl,by omega,trivial⟩,⟨rfl,by omega,trivial⟩,⟨rfl,by omega,trivial⟩,⟨rfl,by omega,scs_ruls _ _⟩,⟨rfl,by omega,by simp [SObj.sc,SV.scs,SV.sc]⟩,⟨rfl,by omega,trivial⟩,⟨rfl,by omega,trivial⟩,⟨rfl,by omega,trivial⟩,⟨rfl,by omega,trivial⟩,⟨rfl,by omega,trivial⟩,trivial⟩ (fun p hp=>by cases hp) (ih trivial)
   have hil:=of_decide_eq_false hlast
   conv=>whnf
   obtain ⟨q,hqd⟩ : ∃ q,(IntKind.i64.wrap (rw8.tmod 128))=q:=⟨_,rfl⟩
   have hq0:0≤q∧q≤127:=by
    rw [← hqd]
    have h1:rw8.tmod 128=rw8 % 128:=Int.tmod_eq_emod_of_nonneg hrw8.1
    have h2:IntKind.i64.wrap (rw8.tmod 128)=rw8.tmod 128:=W_id (by omega) (by omega)
    rw [h2,h1]
    omega
   obtain ⟨hq0,hq1⟩:=hq0
   have hqn:IntKind.i64.wrap (-q) = -q:=W_id (by omega) (by omega)
   refine Run.draw (hc w [] none (fun _ h=>by cases h)) 8 ?_
   rw [show upto 0 8=upto 0 2++(upto 2 1++(upto 3 2++(upto 5 1++upto 6 2))) from rfl]
   simp only [drawK_app]
   conv=>whnf
   rw [opF_make (m:=x.rs.length) rfl rfl rfl rfl rfl rfl (by omega) (by omega),show List.replicate x.rs.length (SV.v (.int .i64 0))=(repY x.rs.length q 0).map fun x=>ii x by simp [repY,ii]]
   conv=>whnf
   rw [opF_make (m:=x.rs.length) rfl rfl rfl rfl rfl rfl (by omega) (by omega),show List.replicate x.rs.length (SV.v (.int .i64 0))=(repY x.rs.length (-q) 0).map fun x=>ii x by simp [repY,ii]]
   conv=>whnf
   refine ⟨by kernel_rfl,?_⟩
   refine Run.of_wpK (hc w [] none (fun _ h=>by cases h)) 1000 _ ?_
   conv=>whnf
   refine Run.trim (T':=[(1,.v (.int .u8 rw8)),(2,.ptr 6 0),(6,.ptr 9 0),(8,ii ((i:Nat):Int)),(9,.opq 33),(10,.opq 34),(13,.opq 37),(14,.opq 40),(15,ii ((0:Nat):Int))]) (M':=((37,.row 1 x.rs.length ((repY x.rs.length q 0).map fun x=>ii x) 3)::(40,.row 1 x.rs.length ((repY x.rs.length (-q) 0).map fun x=>ii x) 3)::(33,.row 1 (atIn l ((i:Nat):Int)).length ((atIn l ((i:Nat):Int)).map fun x=>ii x) 3)::(34,.row 1 x.rs.length ((atRw x.rs.length p ((i:Nat):Int)).map fun x=>ii x) 3)::(9,.cells [ii ((i:Nat):Int),.opq 10,ii x.n.inp,.opq 11,.opq 12,.mp 17,.mp 18,.mp 19,.mp 20,.mp 21,.mp 22,.mp 23,.mp 24,.mp 25,.mp 26,.mp 27,.mp 28,.mp 29,.mp 30,.mp 31,.mp 32,.opq 13,.opq 14,.opq 15,.mp 16] 96)::(10,.row 8 x.n.N.length ((x.n.N.flatMap Prm.vals).map .v) 60)::(11,.row 4 x.n.S.length ((x.n.S.flatMap Syn.vals).map .v) 55)::(12,.row 2 x.n.N.length (s.st.flatMap Ste.cells) 139)::(13,.row 10 x.rs.length ((x.rs.flatMap Rul.vals).map .v) 36)::(14,.row 1 x.pl.length ((ints x.pl).map .v) 3)::(15,.row 4 x.pl.length (s.m.flatMap Mrk.cells) 84)::(16,.kmap true true x.tot)::(17,.kmap false false (sentE (s.sm 0)))::(18,.kmap false false (sentE (s.sm 1)))::(19,.kmap false false (sentE (s.sm 2)))::(20,.kmap false false (sentE (s.sm 3)))::(21,.kmap false false (sentE (s.sm 4)))::(22,.kmap false false (sentE (s.sm 5)))::(23,.kmap false false (sentE (s.sm 6)))::(24,.kmap false false (sentE (s.sm 7)))::(25,.kmap false false (sentE (s.sm 8)))::(26,.kmap false false (sentE (s.sm 9)))::(27,.kmap false false (sentE (s.sm 10)))::(28,.kmap false false (sentE (s.sm 11)))::(29,.kmap false false (sentE (s.sm 12)))::(30,.kmap false false (sentE (s.sm 13)))::(31,.kmap false false (sentE (s.sm 14)))::(32,.kmap false false (sentE (s.sm 15)))::(8,.row 10 x.rs.length (x.rs.flatMap Rul.cells) 36)::(6,.cells [.opq 0,ii x.n.inp,.opq 1,.opq 8,.opq 3,.opq 4,.opq 5,ii (KN:Int)] 45)::(0,.rwin 8 x.n.N.length (x.n.N.flatMap Prm.vals))::(1,.rwin 4 x.n.S.length (x.n.S.flatMap Syn.vals))::(3,.rwin 1 x.pl.length (ints x.pl))::(4,.rwin 2 l.length (l.flatMap Evt.vals))::(5,.rwin 3 p.length (p.flatMap Prz.vals))::[])) 41 ⟨⟨rfl,trivial⟩,⟨rfl,(show 6<41 by decide)⟩,⟨rfl,(show 9<41 by decide)⟩,⟨rfl,trivial⟩,⟨rfl,(show 33<41 by decide)⟩,⟨rfl,(show 34<41 by decide)⟩,⟨rfl,(show 37<41 by decide)⟩,⟨rfl,(show 40<41 by decide)⟩,⟨rfl,trivial⟩,trivial⟩ ⟨⟨rfl,by omega,scs_i _ _⟩,⟨rfl,by omega,scs_i _ _⟩,⟨rfl,by omega,scs_i _ _⟩,⟨rfl,by omega,scs_i _ _⟩,⟨rfl,by omega,by simp [SObj.sc,SV.scs,SV.sc]⟩,⟨rfl,by omega,scs_v _ _⟩,⟨rfl,by omega,scs_v _ _⟩,⟨rfl,by omega,scs_st _ _⟩,⟨rfl,by omega,scs_v _ _⟩,⟨rfl,by omega,scs_v _ _⟩,⟨rfl,by omega,scs_marks _ _⟩,⟨rfl,by omega,trivial⟩,⟨rfl,by omega,trivial⟩,⟨rfl,by omega,trivial⟩,⟨rfl,by omega,trivial⟩,⟨rfl,by omega,trivial⟩,⟨rfl,by omega,trivial⟩,⟨rfl,by omega,trivial⟩,⟨rfl,by omega,trivial⟩,⟨rfl,by omega,trivial⟩,⟨rfl,by omega,trivial⟩,⟨rfl,by omega,trivial⟩,⟨rfl,by omega,trivial⟩,⟨rfl,by omega,trivial⟩,⟨rfl,by omega,trivial⟩,⟨rfl,by omega,trivial⟩,⟨rfl,by omega,trivial⟩,⟨rfl,by omega,trivial⟩,⟨rfl,by omega,scs_ruls _ _⟩,⟨rfl,by omega,by simp [SObj.sc,SV.scs,SV.sc]⟩,⟨rfl,by omega,trivial⟩,⟨rfl,by omega,trivial⟩,⟨rfl,by omega,trivial⟩,⟨rfl,by omega,trivial⟩,⟨rfl,by omega,trivial⟩,trivial⟩ (fun p hp=>by cases hp) ?_
   refine Run.upToJ (T:=fun j=>[(1,.v (.int .u8 rw8)),(2,.ptr 6 0),(6,.ptr 9 0),(8,ii ((i:Nat):Int)),(9,.opq 33),(10,.opq 34),(13,.opq 37),(14,.opq 40),(15,ii ((j:Nat):Int))]) (M:=fun j=>((37,.row 1 x.rs.length ((repY x.rs.length q j).map fun x=>ii x) 3)::(40,.row 1 x.rs.length ((repY x.rs.length (-q) j).map fun x=>ii x) 3)::(33,.row 1 (atIn l ((i:Nat):Int)).length ((atIn l ((i:Nat):Int)).map fun x=>ii x) 3)::(34,.row 1 x.rs.length ((atRw x.rs.length p ((i:Nat):Int)).map fun x=>ii x) 3)::(9,.cells [ii ((i:Nat):Int),.opq 10,ii x.n.inp,.opq 11,.opq 12,.mp 17,.mp 18,.mp 19,.mp 20,.mp 21,.mp 22,.mp 23,.mp 24,.mp 25,.mp 26,.mp 27,.mp 28,.mp 29,.mp 30,.mp 31,.mp 32,.opq 13,.opq 14,.opq 15,.mp 16] 96)::(10,.row 8 x.n.N.length ((x.n.N.flatMap Prm.vals).map .v) 60)::(11,.row 4 x.n.S.length ((x.n.S.flatMap Syn.vals).map .v) 55)::(12,.row 2 x.n.N.length (s.st.flatMap Ste.cells) 139)::(13,.row 10 x.rs.length ((x.rs.flatMap Rul.vals).map .v) 36)::(14,.row 1 x.pl.length ((ints x.pl).map .v) 3)::(15,.row 4 x.pl.length (s.m.flatMap Mrk.cells) 84)::(16,.kmap true true x.tot)::(17,.kmap false false (sentE (s.sm 0)))::(18,.kmap false false (sentE (s.sm 1)))::(19,.kmap false false (sentE (s.sm 2)))::(20,.kmap false false (sentE (s.sm 3)))::(21,.kmap false false (sentE (s.sm 4)))::(22,.kmap false false (sentE (s.sm 5)))::(23,.kmap false false (sentE (s.sm 6)))::(24,.kmap false false (sentE (s.sm 7)))::(25,.kmap false false (sentE (s.sm 8)))::(26,.kmap false false (sentE (s.sm 9)))::(27,.kmap false false (sentE (s.sm 10)))::(28,.kmap false false (sentE (s.sm 11)))::(29,.kmap false false (sentE (s.sm 12)))::(30,.kmap false false (sentE (s.sm 13)))::(31,.kmap false false (sentE (s.sm 14)))::(32,.kmap false false (sentE (s.sm 15)))::(8,.row 10 x.rs.length (x.rs.flatMap Rul.cells) 36)::(6,.cells [.opq 0,ii x.n.inp,.opq 1,.opq 8,.opq 3,.opq 4,.opq 5,ii (KN:Int)] 45)::(0,.rwin 8 x.n.N.length (x.n.N.flatMap Prm.vals))::(1,.rwin 4 x.n.S.length (x.n.S.flatMap Syn.vals))::(3,.rwin 1 x.pl.length (ints x.pl))::(4,.rwin 2 l.length (l.flatMap Evt.vals))::(5,.rwin 3 p.length (p.flatMap Prz.vals))::[])) (fun _=>True) x.rs.length trivial ?_ ?_
   ·intro j hj _ ih2
    refine Run.of_wpK (hc w [] none (fun _ h=>by cases h)) 1000 _ ?_
    conv=>whnf
    rw [decide_eq_true (show ((j:Nat):Int)<(x.rs.length:Int) by omega)]
    conv=>whnf
    refine ⟨by decide,?_⟩
    conv=>whnf
    refine ⟨by decide,?_⟩
    conv=>whnf
    refine ⟨by omega,?_⟩
    conv=>whnf
    have hl1:=repY_len x.rs.length q (show j≤x.rs.length by omega)
    have hl2:=repY_len x.rs.length (-q) (show j≤x.rs.length by omega)
    rw [hqd]
    rw [opF_storeR1 (v:=ii q) j rfl rfl rfl rfl rfl (by rw [idx_nat,Nat.mul_one]) (by rw [List.length_map]; omega) rfl rfl,show ((repY x.rs.length q j).map fun x=>ii x).set j (ii q)=(repY x.rs.length q (j+1)).map fun x=>ii x by rw [repY_succ _ _ hj,List.map_set]]
    conv=>whnf
    refine ⟨by omega,?_⟩
    conv=>whnf
    rw [hqn]
    rw [opF_storeR1 (v:=ii (-q)) j rfl rfl rfl rfl rfl (by rw [idx_nat,Nat.mul_one]) (by rw [List.length_map]; omega) rfl rfl,show ((repY x.rs.length (-q) j).map fun x=>ii x).set j (ii (-q))=(repY x.rs.length (-q) (j+1)).map fun x=>ii x by rw [repY_succ _ _ hj,List.map_set]]
    conv=>whnf
    exact Run.trim (T':=[(1,.v (.int .u8 rw8)),(2,.ptr 6 0),(6,.ptr 9 0),(8,ii ((i:Nat):Int)),(9,.opq 33),(10,.opq 34),(13,.opq 37),(14,.opq 40),(15,ii (((j+1):Nat):Int))]) (M':=((37,.row 1 x.rs.length ((repY x.rs.length q (j+1)).map fun x=>ii x) 3)::(40,.row 1 x.rs.length ((repY x.rs.length (-q) (j+1)).map fun x=>ii x) 3)::(33,.row 1 (atIn l ((i:Nat):Int)).length ((atIn l ((i:Nat):Int)).map fun x=>ii x) 3)::(34,.row 1 x.rs.length ((atRw x.rs.length p ((i:Nat):Int)).map fun x=>ii x) 3)::(9,.cells [ii ((i:Nat):Int),.opq 10,ii x.n.inp,.opq 11,.opq 12,.mp 17,.mp 18,.mp 19,.mp 20,.mp 21,.mp 22,.mp 23,.mp 24,.mp 25,.mp 26,.mp 27,.mp 28,.mp 29,.mp 30,.mp 31,.mp 32,.opq 13,.opq 14,.opq 15,.mp 16] 96)::(10,.row 8 x.n.N.length ((x.n.N.flatMap Prm.vals).map .v) 60)::(11,.row 4 x.n.S.length ((x.n.S.flatMap Syn.vals).map .v) 55)::(12,.row 2 x.n.N.length (s.st.flatMap Ste.cells) 139)::(13,.row 10 x.rs.length ((x.rs.flatMap Rul.vals).map .v) 36)::(14,.row 1 x.pl.length ((ints x.pl).map .v) 3)::(15,.row 4 x.pl.length (s.m.flatMap Mrk.cells) 84)::(16,.kmap true true x.tot)::(17,.kmap false false (sentE (s.sm 0)))::(18,.kmap false false (sentE (s.sm 1)))::(19,.kmap false false (sentE (s.sm 2)))::(20,.kmap false false (sentE (s.sm 3)))::(21,.kmap false false (sentE (s.sm 4)))::(22,.kmap false false (sentE (s.sm 5)))::(23,.kmap false false (sentE (s.sm 6)))::(24,.kmap false false (sentE (s.sm 7)))::(25,.kmap false false (sentE (s.sm 8)))::(26,.kmap false false (sentE (s.sm 9)))::(27,.kmap false false (sentE (s.sm 10)))::(28,.kmap false false (sentE (s.sm 11)))::(29,.kmap false false (sentE (s.sm 12)))::(30,.kmap false false (sentE (s.sm 13)))::(31,.kmap false false (sentE (s.sm 14)))::(32,.kmap false false (sentE (s.sm 15)))::(8,.row 10 x.rs.length (x.rs.flatMap Rul.cells) 36)::(6,.cells [.opq 0,ii x.n.inp,.opq 1,.opq 8,.opq 3,.opq 4,.opq 5,ii (KN:Int)] 45)::(0,.rwin 8 x.n.N.length (x.n.N.flatMap Prm.vals))::(1,.rwin 4 x.n.S.length (x.n.S.flatMap Syn.vals))::(3,.rwin 1 x.pl.length (ints x.pl))::(4,.rwin 2 l.length (l.flatMap Evt.vals))::(5,.rwin 3 p.length (p.flatMap Prz.vals))::[])) 41 ⟨⟨rfl,trivial⟩,⟨rfl,(show 6<41 by decide)⟩,⟨rfl,(show 9<41 by decide)⟩,⟨rfl,trivial⟩,⟨rfl,(show 33<41 by decide)⟩,⟨rfl,(show 34<41 by decide)⟩,⟨rfl,(show 37<41 by decide)⟩,⟨rfl,(show 40<41 by decide)⟩,⟨congrArg some (congrArg ii (wrap_succ (by omega))),trivial⟩,trivial⟩ ⟨⟨rfl,by omega,scs_i _ _⟩,⟨rfl,by omega,scs_i _ _⟩,⟨rfl,by omega,scs_i _ _⟩,⟨rfl,by omega,scs_i _ _⟩,⟨rfl,by omega,by simp [SObj.sc,SV.scs,SV.sc]⟩,⟨rfl,by omega,scs_v _ _⟩,⟨rfl,by omega,scs_v _ _⟩,⟨rfl,by omega,scs_st _ _⟩,⟨rfl,by omega,scs_v _ _⟩,⟨rfl,by omega,scs_v _ _⟩,⟨rfl,by omega,scs_marks _ _⟩,⟨rfl,by omega,trivial⟩,⟨rfl,by omega,trivial⟩,⟨rfl,by omega,trivial⟩,⟨rfl,by omega,trivial⟩,⟨rfl,by omega,trivial⟩,⟨rfl,by omega,trivial⟩,⟨rfl,by omega,trivial⟩,⟨rfl,by omega,trivial⟩,⟨rfl,by omega,trivial⟩,⟨rfl,by omega,trivial⟩,⟨rfl,by omega,trivial⟩,⟨rfl,by omega,trivial⟩,⟨rfl,by omega,trivial⟩,⟨rfl,by omega,trivial⟩,⟨rfl,by omega,trivial⟩,⟨rfl,by omega,trivial⟩,⟨rfl,by omega,trivial⟩,⟨rfl,by omega,scs_ruls _ _⟩,⟨rfl,by omega,by simp [SObj.sc,SV.scs,SV.sc]⟩,⟨rfl,by omega,trivial⟩,⟨rfl,by omega,trivial⟩,⟨rfl,by omega,trivial⟩,⟨rfl,by omega,trivial⟩,⟨rfl,by omega,trivial⟩,trivial⟩ (fun p hp=>by cases hp) (ih2 trivial)
   ·intro _
    refine Run.of_wpK (hc w [] none (fun _ h=>by cases h)) 1000 _ ?_
    conv=>whnf
    rw [decide_eq_false (show ¬ ((x.rs.length:Nat):Int)<(x.rs.length:Int) by omega),repY_all,repY_all]
    conv=>whnf
    refine Run.callR (vs:=[.ptr 0 0]) (caps:=[]) (caps2:=[]) (Copy_spec ((i:Nat):Int) x.n.inp x.n.N x.pl s.st s.m hx1 hxN (by omega)) (ent _ _ Try.func30 (by kernel_rfl) rfl) rfl rfl rfl rfl rfl rfl [.ptr 9 0] rfl (fun q=>9+q) rfl (fun q hq=>by show 9+q<41; omega) (fun q hq j hj hne=>by show 9+q≠9+j; omega) (by decide)
     ⟨⟨by omega,by simp [lcells,SObj.sc,SV.scs,SV.sc],⟨_,rfl,Conv.refl _⟩,.inr (by simp),fun h=>by cases h⟩,⟨by omega,trivial,⟨_,rfl,Conv.row (by decide) (steV _)⟩,.inl rfl,fun _=>by simp⟩,⟨by omega,trivial,⟨_,rfl,Conv.row (by decide) (marks_v _)⟩,.inl rfl,fun _=>by simp⟩,trivial⟩ (fun q hq=>by simp at hq; subst hq; exact ⟨by omega,_,rfl⟩) (.ptr 41 0) ((41,.cells [ii ((i:Nat):Int),.opq 10,ii x.n.inp,.opq 11,.opq 42,.mp 17,.mp 18,.mp 19,.mp 20,.mp 21,.mp 22,.mp 23,.mp 24,.mp 25,.mp 26,.mp 27,.mp 28,.mp 29,.mp 30,.mp 31,.mp 32,.opq 13,.opq 14,.opq 43,.mp 16] 96)::(42,.row 2 x.n.N.length (s.st.flatMap Ste.cells) 139)::(43,.row 4 x.pl.length (s.m.flatMap Mrk.cells) 84)::(37,.row 1 x.rs.length ((List.replicate x.rs.length q).map fun x=>ii x) 3)::(40,.row 1 x.rs.length ((List.replicate x.rs.length (-q)).map fun x=>ii x) 3)::(33,.row 1 (atIn l ((i:Nat):Int)).length ((atIn l ((i:Nat):Int)).map fun x=>ii x) 3)::(9,.cells [ii ((i:Nat):Int),.opq 10,ii x.n.inp,.opq 11,.opq 12,.mp 17,.mp 18,.mp 19,.mp 20,.mp 21,.mp 22,.mp 23,.mp 24,.mp 25,.mp 26,.mp 27,.mp 28,.mp 29,.mp 30,.mp 31,.mp 32,.opq 13,.opq 14,.opq 15,.mp 16] 96)::(10,.row 8 x.n.N.length ((x.n.N.flatMap Prm.vals).map .v) 60)::(11,.row 4 x.n.S.length ((x.n.S.flatMap Syn.vals).map .v) 55)::(12,.row 2 x.n.N.length (s.st.flatMap Ste.cells) 139)::(13,.row 10 x.rs.length ((x.rs.flatMap Rul.vals).map .v) 36)::(14,.row 1 x.pl.length ((ints x.pl).map .v) 3)::(15,.row 4 x.pl.length (s.m.flatMap Mrk.cells) 84)::(16,.kmap true true x.tot)::(17,.kmap false false (sentE (s.sm 0)))::(18,.kmap false false (sentE (s.sm 1)))::(19,.kmap false false (sentE (s.sm 2)))::(20,.kmap false false (sentE (s.sm 3)))::(21,.kmap false false (sentE (s.sm 4)))::(22,.kmap false false (sentE (s.sm 5)))::(23,.kmap false false (sentE (s.sm 6)))::(24,.kmap false false (sentE (s.sm 7)))::(25,.kmap false false (sentE (s.sm 8)))::(26,.kmap false false (sentE (s.sm 9)))::(27,.kmap false false (sentE (s.sm 10)))::(28,.kmap false false (sentE (s.sm 11)))::(29,.kmap false false (sentE (s.sm 12)))::(30,.kmap false false (sentE (s.sm 13)))::(31,.kmap false false (sentE (s.sm 14)))::(32,.kmap false false (sentE (s.sm 15)))::(8,.row 10 x.rs.length (x.rs.flatMap Rul.cells) 36)::(6,.cells [.opq 0,ii x.n.inp,.opq 1,.opq 8,.opq 3,.opq 4,.opq 5,ii (KN:Int)] 45)::(0,.rwin 8 x.n.N.length (x.n.N.flatMap Prm.vals))::(1,.rwin 4 x.n.S.length (x.n.S.flatMap Syn.vals))::(3,.rwin 1 x.pl.length (ints x.pl))::(4,.rwin 2 l.length (l.flatMap Evt.vals))::(5,.rwin 3 p.length (p.flatMap Prz.vals))::[]) 44 rfl rfl
     ⟨.inr ⟨24,_,rfl,rfl,rfl,rfl⟩,.inr ⟨25,_,rfl,rfl,(oren_fix (S:=fun _=>False) (fun i hi=>hi.elim) (o := .row 2 x.n.N.length (s.st.flatMap Ste.cells) 139) (scs_st _ _)).symm,rfl⟩,.inr ⟨26,_,rfl,rfl,(oren_fix (S:=fun _=>False) (fun i hi=>hi.elim) (o := .row 4 x.pl.length (s.m.flatMap Mrk.cells) 84) (scs_marks _ _)).symm,rfl⟩,.inl ⟨rfl,fun q hq=>by simp at hq; subst hq; exact (show 9≠37 by decide)⟩,.inl ⟨rfl,fun q hq=>by simp at hq; subst hq; exact (show 9≠40 by decide)⟩,.inl ⟨rfl,fun q hq=>by simp at hq; subst hq; exact (show 9≠33 by decide)⟩,.inr ⟨0,_,rfl,rfl,rfl,rfl⟩,.inl ⟨rfl,fun q hq=>by simp at hq; subst hq; exact (show 9≠10 by decide)⟩,.inl ⟨rfl,fun q hq=>by simp at hq; subst hq; exact (show 9≠11 by decide)⟩,.inl ⟨rfl,fun q hq=>by simp at hq; subst hq; exact (show 9≠12 by decide)⟩,.inl ⟨rfl,fun q hq=>by simp at hq; subst hq; exact (show 9≠13 by decide)⟩,.inl ⟨rfl,fun q hq=>by simp at hq; subst hq; exact (show 9≠14 by decide)⟩,.inl ⟨rfl,fun q hq=>by simp at hq; subst hq; exact (show 9≠15 by decide)⟩,.inl ⟨rfl,fun q hq=>by simp at hq; subst hq; exact (show 9≠16 by decide)⟩,.inl ⟨rfl,fun q hq=>by simp at hq; subst hq; exact (show 9≠17 by decide)⟩,.inl ⟨rfl,fun q hq=>by simp at hq; subst hq; exact (show 9≠18 by decide)⟩,.inl ⟨rfl,fun q hq=>by simp at hq; subst hq; exact (show 9≠19 by decide)⟩,.inl ⟨rfl,fun q hq=>by simp at hq; subst hq; exact (show 9≠20 by decide)⟩,.inl ⟨rfl,fun q hq=>by simp at hq; subst hq; exact (show 9≠21 by decide)⟩,.inl ⟨rfl,fun q hq=>by simp at hq; subst hq; exact (show 9≠22 by decide)⟩,.inl ⟨rfl,fun q hq=>by simp at hq; subst hq; exact (show 9≠23 by decide)⟩,.inl ⟨rfl,fun q hq=>by simp at hq; subst hq; exact (show 9≠24 by decide)⟩,.inl ⟨rfl,fun q hq=>by simp at hq; subst hq; exact (show 9≠25 by decide)⟩,.inl ⟨rfl,fun q hq=>by simp at hq; subst hq; exact (show 9≠26 by decide)⟩,.inl ⟨rfl,fun q hq=>by simp at hq; subst hq; exact (show 9≠27 by decide)⟩,.inl ⟨rfl,fun q hq=>by simp at hq; subst hq; exact (show 9≠28 by decide)⟩,.inl ⟨rfl,fun q hq=>by simp at hq; subst hq; exact (show 9≠29 by decide)⟩,.inl ⟨rfl,fun q hq=>by simp at hq; subst hq; exact (show 9≠30 by decide)⟩,.inl ⟨rfl,fun q hq=>by simp at hq; subst hq; exact (show 9≠31 by decide)⟩,.inl ⟨rfl,fun q hq=>by simp at hq; subst hq; exact (show 9≠32 by decide)⟩,.inl ⟨rfl,fun q hq=>by simp at hq; subst hq; exact (show 9≠8 by decide)⟩,.inl ⟨rfl,fun q hq=>by simp at hq; subst hq; exact (show 9≠6 by decide)⟩,.inl ⟨rfl,fun q hq=>by simp at hq; subst hq; exact (show 9≠0 by decide)⟩,.inl ⟨rfl,fun q hq=>by simp at hq; subst hq; exact (show 9≠1 by decide)⟩,.inl ⟨rfl,fun q hq=>by simp at hq; subst hq; exact (show 9≠3 by decide)⟩,.inl ⟨rfl,fun q hq=>by simp at hq; subst hq; exact (show 9≠4 by decide)⟩,.inl ⟨rfl,fun q hq=>by simp at hq; subst hq; exact (show 9≠5 by decide)⟩,trivial⟩ ?_
    refine Run.of_wpK (hc w [] none (fun _ h=>by cases h)) 1000 _ ?_
    conv=>whnf
    refine Run.callR (vs:=[.ptr 0 0]) (caps:=[]) (caps2:=[]) (Copy_spec ((i:Nat):Int) x.n.inp x.n.N x.pl s.st s.m hx1 hxN (by omega)) (ent _ _ Try.func30 (by kernel_rfl) rfl) rfl rfl rfl rfl rfl rfl [.ptr 9 0] rfl (fun q=>9+q) rfl (fun q hq=>by show 9+q<44; omega) (fun q hq j hj hne=>by show 9+q≠9+j; omega) (by decide)
     ⟨⟨by omega,by simp [lcells,SObj.sc,SV.scs,SV.sc],⟨_,rfl,Conv.refl _⟩,.inr (by simp),fun h=>by cases h⟩,⟨by omega,trivial,⟨_,rfl,Conv.row (by decide) (steV _)⟩,.inl rfl,fun _=>by simp⟩,⟨by omega,trivial,⟨_,rfl,Conv.row (by decide) (marks_v _)⟩,.inl rfl,fun _=>by simp⟩,trivial⟩ (fun q hq=>by simp at hq; subst hq; exact ⟨by omega,_,rfl⟩) (.ptr 44 0) ((44,.cells [ii ((i:Nat):Int),.opq 10,ii x.n.inp,.opq 11,.opq 45,.mp 17,.mp 18,.mp 19,.mp 20,.mp 21,.mp 22,.mp 23,.mp 24,.mp 25,.mp 26,.mp 27,.mp 28,.mp 29,.mp 30,.mp 31,.mp 32,.opq 13,.opq 14,.opq 46,.mp 16] 96)::(45,.row 2 x.n.N.length (s.st.flatMap Ste.cells) 139)::(46,.row 4 x.pl.length (s.m.flatMap Mrk.cells) 84)::(41,.cells [ii ((i:Nat):Int),.opq 10,ii x.n.inp,.opq 11,.opq 42,.mp 17,.mp 18,.mp 19,.mp 20,.mp 21,.mp 22,.mp 23,.mp 24,.mp 25,.mp 26,.mp 27,.mp 28,.mp 29,.mp 30,.mp 31,.mp 32,.opq 13,.opq 14,.opq 43,.mp 16] 96)::(42,.row 2 x.n.N.length (s.st.flatMap Ste.cells) 139)::(43,.row 4 x.pl.length (s.m.flatMap Mrk.cells) 84)::(37,.row 1 x.rs.length ((List.replicate x.rs.length q).map fun x=>ii x) 3)::(40,.row 1 x.rs.length ((List.replicate x.rs.length (-q)).map fun x=>ii x) 3)::(33,.row 1 (atIn l ((i:Nat):Int)).length ((atIn l ((i:Nat):Int)).map fun x=>ii x) 3)::(9,.cells [ii ((i:Nat):Int),.opq 10,ii x.n.inp,.opq 11,.opq 12,.mp 17,.mp 18,.mp 19,.mp 20,.mp 21,.mp 22,.mp 23,.mp 24,.mp 25,.mp 26,.mp 27,.mp 28,.mp 29,.mp 30,.mp 31,.mp 32,.opq 13,.opq 14,.opq 15,.mp 16] 96)::(10,.row 8 x.n.N.length ((x.n.N.flatMap Prm.vals).map .v) 60)::(11,.row 4 x.n.S.length ((x.n.S.flatMap Syn.vals).map .v) 55)::(12,.row 2 x.n.N.length (s.st.flatMap Ste.cells) 139)::(13,.row 10 x.rs.length ((x.rs.flatMap Rul.vals).map .v) 36)::(14,.row 1 x.pl.length ((ints x.pl).map .v) 3)::(15,.row 4 x.pl.length (s.m.flatMap Mrk.cells) 84)::(16,.kmap true true x.tot)::(17,.kmap false false (sentE (s.sm 0)))::(18,.kmap false false (sentE (s.sm 1)))::(19,.kmap false false (sentE (s.sm 2)))::(20,.kmap false false (sentE (s.sm 3)))::(21,.kmap false false (sentE (s.sm 4)))::(22,.kmap false false (sentE (s.sm 5)))::(23,.kmap false false (sentE (s.sm 6)))::(24,.kmap false false (sentE (s.sm 7)))::(25,.kmap false false (sentE (s.sm 8)))::(26,.kmap false false (sentE (s.sm 9)))::(27,.kmap false false (sentE (s.sm 10)))::(28,.kmap false false (sentE (s.sm 11)))::(29,.kmap false false (sentE (s.sm 12)))::(30,.kmap false false (sentE (s.sm 13)))::(31,.kmap false false (sentE (s.sm 14)))::(32,.kmap false false (sentE (s.sm 15)))::(8,.row 10 x.rs.length (x.rs.flatMap Rul.cells) 36)::(6,.cells [.opq 0,ii x.n.inp,.opq 1,.opq 8,.opq 3,.opq 4,.opq 5,ii (KN:Int)] 45)::(0,.rwin 8 x.n.N.length (x.n.N.flatMap Prm.vals))::(1,.rwin 4 x.n.S.length (x.n.S.flatMap Syn.vals))::(3,.rwin 1 x.pl.length (ints x.pl))::(4,.rwin 2 l.length (l.flatMap Evt.vals))::(5,.rwin 3 p.length (p.flatMap Prz.vals))::[]) 47 rfl rfl
     ⟨.inr ⟨24,_,rfl,rfl,rfl,rfl⟩,.inr ⟨25,_,rfl,rfl,(oren_fix (S:=fun _=>False) (fun i hi=>hi.elim) (o := .row 2 x.n.N.length (s.st.flatMap Ste.cells) 139) (scs_st _ _)).symm,rfl⟩,.inr ⟨26,_,rfl,rfl,(oren_fix (S:=fun _=>False) (fun i hi=>hi.elim) (o := .row 4 x.pl.length (s.m.flatMap Mrk.cells) 84) (scs_marks _ _)).symm,rfl⟩,.inl ⟨rfl,fun q hq=>by simp at hq; subst hq; exact (show 9≠41 by decide)⟩,.inl ⟨rfl,fun q hq=>by simp at hq; subst hq; exact (show 9≠42 by decide)⟩,.inl ⟨rfl,fun q hq=>by simp at hq; subst hq; exact (show 9≠43 by decide)⟩,.inl ⟨rfl,fun q hq=>by simp at hq; subst hq; exact (show 9≠37 by decide)⟩,.inl ⟨rfl,fun q hq=>by simp at hq; subst hq; exact (show 9≠40 by decide)⟩,.inl ⟨rfl,fun q hq=>by simp at hq; subst hq; exact (show 9≠33 by decide)⟩,.inr ⟨0,_,rfl,rfl,rfl,rfl⟩,.inl ⟨rfl,fun q hq=>by simp at hq; subst hq; exact (show 9≠10 by decide)⟩,.inl ⟨rfl,fun q hq=>by simp at hq; subst hq; exact (show 9≠11 by decide)⟩,.inl ⟨rfl,fun q hq=>by simp at hq; subst hq; exact (show 9≠12 by decide)⟩,.inl ⟨rfl,fun q hq=>by simp at hq; subst hq; exact (show 9≠13 by decide)⟩,.inl ⟨rfl,fun q hq=>by simp at hq; subst hq; exact (show 9≠14 by decide)⟩,.inl ⟨rfl,fun q hq=>by simp at hq; subst hq; exact (show 9≠15 by decide)⟩,.inl ⟨rfl,fun q hq=>by simp at hq; subst hq; exact (show 9≠16 by decide)⟩,.inl ⟨rfl,fun q hq=>by simp at hq; subst hq; exact (show 9≠17 by decide)⟩,.inl ⟨rfl,fun q hq=>by simp at hq; subst hq; exact (show 9≠18 by decide)⟩,.inl ⟨rfl,fun q hq=>by simp at hq; subst hq; exact (show 9≠19 by decide)⟩,.inl ⟨rfl,fun q hq=>by simp at hq; subst hq; exact (show 9≠20 by decide)⟩,.inl ⟨rfl,fun q hq=>by simp at hq; subst hq; exact (show 9≠21 by decide)⟩,.inl ⟨rfl,fun q hq=>by simp at hq; subst hq; exact (show 9≠22 by decide)⟩,.inl ⟨rfl,fun q hq=>by simp at hq; subst hq; exact (show 9≠23 by decide)⟩,.inl ⟨rfl,fun q hq=>by simp at hq; subst hq; exact (show 9≠24 by decide)⟩,.inl ⟨rfl,fun q hq=>by simp at hq; subst hq; exact (show 9≠25 by decide)⟩,.inl ⟨rfl,fun q hq=>by simp at hq; subst hq; exact (show 9≠26 by decide)⟩,.inl ⟨rfl,fun q hq=>by simp at hq; subst hq; exact (show 9≠27 by decide)⟩,.inl ⟨rfl,fun q hq=>by simp at hq; subst hq; exact (show 9≠28 by decide)⟩,.inl ⟨rfl,fun q hq=>by simp at hq; subst hq; exact (show 9≠29 by decide)⟩,.inl ⟨rfl,fun q hq=>by simp at hq; subst hq; exact (show 9≠30 by decide)⟩,.inl ⟨rfl,fun q hq=>by simp at hq; subst hq; exact (show 9≠31 by decide)⟩,.inl ⟨rfl,fun q hq=>by simp at hq; subst hq; exact (show 9≠32 by decide)⟩,.inl ⟨rfl,fun q hq=>by simp at hq; subst hq; exact (show 9≠8 by decide)⟩,.inl ⟨rfl,fun q hq=>by simp at hq; subst hq; exact (show 9≠6 by decide)⟩,.inl ⟨rfl,fun q hq=>by simp at hq; subst hq; exact (show 9≠0 by decide)⟩,.inl ⟨rfl,fun q hq=>by simp at hq; subst hq; exact (show 9≠1 by decide)⟩,.inl ⟨rfl,fun q hq=>by simp at hq; subst hq; exact (show 9≠3 by decide)⟩,.inl ⟨rfl,fun q hq=>by simp at hq; subst hq; exact (show 9≠4 by decide)⟩,.inl ⟨rfl,fun q hq=>by simp at hq; subst hq; exact (show 9≠5 by decide)⟩,trivial⟩ ?_
    refine Run.of_wpK (hc w [] none (fun _ h=>by cases h)) 1000 _ ?_
    conv=>whnf
    refine Run.callR (vs:=[.ptr 0 0]) (caps:=[]) (caps2:=[]) (Copy_spec ((i:Nat):Int) x.n.inp x.n.N x.pl s.st s.m hx1 hxN (by omega)) (ent _ _ Try.func30 (by kernel_rfl) rfl) rfl rfl rfl rfl rfl rfl [.ptr 9 0] rfl (fun q=>9+q) rfl (fun q hq=>by show 9+q<47; omega) (fun q hq j hj hne=>by show 9+q≠9+j; omega) (by decide)
     ⟨⟨by omega,by simp [lcells,SObj.sc,SV.scs,SV.sc],⟨_,rfl,Conv.refl _⟩,.inr (by simp),fun h=>by cases h⟩,⟨by omega,trivial,⟨_,rfl,Conv.row (by decide) (steV _)⟩,.inl rfl,fun _=>by simp⟩,⟨by omega,trivial,⟨_,rfl,Conv.row (by decide) (marks_v _)⟩,.inl rfl,fun _=>by simp⟩,trivial⟩ (fun q hq=>by simp at hq; subst hq; exact ⟨by omega,_,rfl⟩) (.ptr 47 0) ((47,.cells [ii ((i:Nat):Int),.opq 10,ii x.n.inp,.opq 11,.opq 48,.mp 17,.mp 18,.mp 19,.mp 20,.mp 21,.mp 22,.mp 23,.mp 24,.mp 25,.mp 26,.mp 27,.mp 28,.mp 29,.mp 30,.mp 31,.mp 32,.opq 13,.opq 14,.opq 49,.mp 16] 96)::(48,.row 2 x.n.N.length (s.st.flatMap Ste.cells) 139)::(49,.row 4 x.pl.length (s.m.flatMap Mrk.cells) 84)::(44,.cells [ii ((i:Nat):Int),.opq 10,ii x.n.inp,.opq 11,.opq 45,.mp 17,.mp 18,.mp 19,.mp 20,.mp 21,.mp 22,.mp 23,.mp 24,.mp 25,.mp 26,.mp 27,.mp 28,.mp 29,.mp 30,.mp 31,.mp 32,.opq 13,.opq 14,.opq 46,.mp 16] 96)::(45,.row 2 x.n.N.length (s.st.flatMap Ste.cells) 139)::(46,.row 4 x.pl.length (s.m.flatMap Mrk.cells) 84)::(41,.cells [ii ((i:Nat):Int),.opq 10,ii x.n.inp,.opq 11,.opq 42,.mp 17,.mp 18,.mp 19,.mp 20,.mp 21,.mp 22,.mp 23,.mp 24,.mp 25,.mp 26,.mp 27,.mp 28,.mp 29,.mp 30,.mp 31,.mp 32,.opq 13,.opq 14,.opq 43,.mp 16] 96)::(42,.row 2 x.n.N.length (s.st.flatMap Ste.cells) 139)::(43,.row 4 x.pl.length (s.m.flatMap Mrk.cells) 84)::(37,.row 1 x.rs.length ((List.replicate x.rs.length q).map fun x=>ii x) 3)::(40,.row 1 x.rs.length ((List.replicate x.rs.length (-q)).map fun x=>ii x) 3)::(33,.row 1 (atIn l ((i:Nat):Int)).length ((atIn l ((i:Nat):Int)).map fun x=>ii x) 3)::(9,.cells [ii ((i:Nat):Int),.opq 10,ii x.n.inp,.opq 11,.opq 12,.mp 17,.mp 18,.mp 19,.mp 20,.mp 21,.mp 22,.mp 23,.mp 24,.mp 25,.mp 26,.mp 27,.mp 28,.mp 29,.mp 30,.mp 31,.mp 32,.opq 13,.opq 14,.opq 15,.mp 16] 96)::(10,.row 8 x.n.N.length ((x.n.N.flatMap Prm.vals).map .v) 60)::(11,.row 4 x.n.S.length ((x.n.S.flatMap Syn.vals).map .v) 55)::(12,.row 2 x.n.N.length (s.st.flatMap Ste.cells) 139)::(13,.row 10 x.rs.length ((x.rs.flatMap Rul.vals).map .v) 36)::(14,.row 1 x.pl.length ((ints x.pl).map .v) 3)::(15,.row 4 x.pl.length (s.m.flatMap Mrk.cells) 84)::(16,.kmap true true x.tot)::(17,.kmap false false (sentE (s.sm 0)))::(18,.kmap false false (sentE (s.sm 1)))::(19,.kmap false false (sentE (s.sm 2)))::(20,.kmap false false (sentE (s.sm 3)))::(21,.kmap false false (sentE (s.sm 4)))::(22,.kmap false false (sentE (s.sm 5)))::(23,.kmap false false (sentE (s.sm 6)))::(24,.kmap false false (sentE (s.sm 7)))::(25,.kmap false false (sentE (s.sm 8)))::(26,.kmap false false (sentE (s.sm 9)))::(27,.kmap false false (sentE (s.sm 10)))::(28,.kmap false false (sentE (s.sm 11)))::(29,.kmap false false (sentE (s.sm 12)))::(30,.kmap false false (sentE (s.sm 13)))::(31,.kmap false false (sentE (s.sm 14)))::(32,.kmap false false (sentE (s.sm 15)))::(8,.row 10 x.rs.length (x.rs.flatMap Rul.cells) 36)::(6,.cells [.opq 0,ii x.n.inp,.opq 1,.opq 8,.opq 3,.opq 4,.opq 5,ii (KN:Int)] 45)::(0,.rwin 8 x.n.N.length (x.n.N.flatMap Prm.vals))::(1,.rwin 4 x.n.S.length (x.n.S.flatMap Syn.vals))::(3,.rwin 1 x.pl.length (ints x.pl))::(4,.rwin 2 l.length (l.flatMap Evt.vals))::(5,.rwin 3 p.length (p.flatMap Prz.vals))::[]) 50 rfl rfl
     ⟨.inr ⟨24,_,rfl,rfl,rfl,rfl⟩,.inr ⟨25,_,rfl,rfl,(oren_fix (S:=fun _=>False) (fun i hi=>hi.elim) (o := .row 2 x.n.N.length (s.st.flatMap Ste.cells) 139) (scs_st _ _)).symm,rfl⟩,.inr ⟨26,_,rfl,rfl,(oren_fix (S:=fun _=>False) (fun i hi=>hi.elim) (o := .row 4 x.pl.length (s.m.flatMap Mrk.cells) 84) (scs_marks _ _)).symm,rfl⟩,.inl ⟨rfl,fun q hq=>by simp at hq; subst hq; exact (show 9≠44 by decide)⟩,.inl ⟨rfl,fun q hq=>by simp at hq; subst hq; exact (show 9≠45 by decide)⟩,.inl ⟨rfl,fun q hq=>by simp at hq; subst hq; exact (show 9≠46 by decide)⟩,.inl ⟨rfl,fun q hq=>by simp at hq; subst hq; exact (show 9≠41 by decide)⟩,.inl ⟨rfl,fun q hq=>by simp at hq; subst hq; exact (show 9≠42 by decide)⟩,.inl ⟨rfl,fun q hq=>by simp at hq; subst hq; exact (show 9≠43 by decide)⟩,.inl ⟨rfl,fun q hq=>by simp at hq; subst hq; exact (show 9≠37 by decide)⟩,.inl ⟨rfl,fun q hq=>by simp at hq; subst hq; exact (show 9≠40 by decide)⟩,.inl ⟨rfl,fun q hq=>by simp at hq; subst hq; exact (show 9≠33 by decide)⟩,.inr ⟨0,_,rfl,rfl,rfl,rfl⟩,.inl ⟨rfl,fun q hq=>by simp at hq; subst hq; exact (show 9≠10 by decide)⟩,.inl ⟨rfl,fun q hq=>by simp at hq; subst hq; exact (show 9≠11 by decide)⟩,.inl ⟨rfl,fun q hq=>by simp at hq; subst hq; exact (show 9≠12 by decide)⟩,.inl ⟨rfl,fun q hq=>by simp at hq; subst hq; exact (show 9≠13 by decide)⟩,.inl ⟨rfl,fun q hq=>by simp at hq; subst hq; exact (show 9≠14 by decide)⟩,.inl ⟨rfl,fun q hq=>by simp at hq; subst hq; exact (show 9≠15 by decide)⟩,.inl ⟨rfl,fun q hq=>by simp at hq; subst hq; exact (show 9≠16 by decide)⟩,.inl ⟨rfl,fun q hq=>by simp at hq; subst hq; exact (show 9≠17 by decide)⟩,.inl ⟨rfl,fun q hq=>by simp at hq; subst hq; exact (show 9≠18 by decide)⟩,.inl ⟨rfl,fun q hq=>by simp at hq; subst hq; exact (show 9≠19 by decide)⟩,.inl ⟨rfl,fun q hq=>by simp at hq; subst hq; exact (show 9≠20 by decide)⟩,.inl ⟨rfl,fun q hq=>by simp at hq; subst hq; exact (show 9≠21 by decide)⟩,.inl ⟨rfl,fun q hq=>by simp at hq; subst hq; exact (show 9≠22 by decide)⟩,.inl ⟨rfl,fun q hq=>by simp at hq; subst hq; exact (show 9≠23 by decide)⟩,.inl ⟨rfl,fun q hq=>by simp at hq; subst hq; exact (show 9≠24 by decide)⟩,.inl ⟨rfl,fun q hq=>by simp at hq; subst hq; exact (show 9≠25 by decide)⟩,.inl ⟨rfl,fun q hq=>by simp at hq; subst hq; exact (show 9≠26 by decide)⟩,.inl ⟨rfl,fun q hq=>by simp at hq; subst hq; exact (show 9≠27 by decide)⟩,.inl ⟨rfl,fun q hq=>by simp at hq; subst hq; exact (show 9≠28 by decide)⟩,.inl ⟨rfl,fun q hq=>by simp at hq; subst hq; exact (show 9≠29 by decide)⟩,.inl ⟨rfl,fun q hq=>by simp at hq; subst hq; exact (show 9≠30 by decide)⟩,.inl ⟨rfl,fun q hq=>by simp at hq; subst hq; exact (show 9≠31 by decide)⟩,.inl ⟨rfl,fun q hq=>by simp at hq; subst hq; exact (show 9≠32 by decide)⟩,.inl ⟨rfl,fun q hq=>by simp at hq; subst hq; exact (show 9≠8 by decide)⟩,.inl ⟨rfl,fun q hq=>by simp at hq; subst hq; exact (show 9≠6 by decide)⟩,.inl ⟨rfl,fun q hq=>by simp at hq; subst hq; exact (show 9≠0 by decide)⟩,.inl ⟨rfl,fun q hq=>by simp at hq; subst hq; exact (show 9≠1 by decide)⟩,.inl ⟨rfl,fun q hq=>by simp at hq; subst hq; exact (show 9≠3 by decide)⟩,.inl ⟨rfl,fun q hq=>by simp at hq; subst hq; exact (show 9≠4 by decide)⟩,.inl ⟨rfl,fun q hq=>by simp at hq; subst hq; exact (show 9≠5 by decide)⟩,trivial⟩ ?_
    refine Run.of_wpK (hc w [] none (fun _ h=>by cases h)) 1000 _ ?_
    conv=>whnf
    obtain ⟨o,ho⟩ : ∃ o,lOut x s=o:=⟨_,rfl⟩
    rw [ho] at hol
    have hckA:stepChk x s (atIn l ((i:Nat):Int)) (List.replicate x.rs.length q)=0:=by
     unfold stepChk
     rw [if_neg (by omega),hev.ins ⟨hx.inp0,hx.inp1⟩,rwChk_rep (by omega) (by omega)]; rfl
    have hstepA:=Step_ok x s (atIn l ((i:Nat):Int)) (List.replicate x.rs.length q) hx hinv hckA (by omega) (by rw [List.length_replicate]; omega)
    rw [rwOf_at (List.length_replicate ..)] at hstepA
    obtain ⟨sA,hsA⟩ : ∃ s2,lN x s (atIn l ((i:Nat):Int)) (List.replicate x.rs.length q)=s2:=⟨_,rfl⟩
    rw [hsA] at hstepA
    unfold lM lC at hstepA
    rw [hst,List.length_replicate,show W (((i:Nat):Int)+1)=((i+1:Nat):Int) from wrap_succ (by omega),hk,ho] at hstepA
    obtain ⟨SA,hSA⟩ : ∃ S2,sA.sm k=S2:=⟨_,rfl⟩
    rw [hSA] at hstepA
    have hckB:stepChk x s (atIn l ((i:Nat):Int)) (List.replicate x.rs.length (-q))=0:=by
     unfold stepChk
     rw [if_neg (by omega),hev.ins ⟨hx.inp0,hx.inp1⟩,rwChk_rep (by omega) (by omega)]; rfl
    have hstepB:=Step_ok x s (atIn l ((i:Nat):Int)) (List.replicate x.rs.length (-q)) hx hinv hckB (by omega) (by rw [List.length_replicate]; omega)
    rw [rwOf_at (List.length_replicate ..)] at hstepB
    obtain ⟨sB,hsB⟩ : ∃ s2,lN x s (atIn l ((i:Nat):Int)) (List.replicate x.rs.length (-q))=s2:=⟨_,rfl⟩
    rw [hsB] at hstepB
    unfold lM lC at hstepB
    rw [hst,List.length_replicate,show W (((i:Nat):Int)+1)=((i+1:Nat):Int) from wrap_succ (by omega),hk,ho] at hstepB
    obtain ⟨SB,hSB⟩ : ∃ S2,sB.sm k=S2:=⟨_,rfl⟩
    rw [hSB] at hstepB
    have hckZ:stepChk x s (atIn l ((i:Nat):Int)) []=0:=by
     unfold stepChk
     rw [if_neg (by omega),hev.ins ⟨hx.inp0,hx.inp1⟩]; rfl
    have hstepZ:=Step_ok0 x s (atIn l ((i:Nat):Int)) hx hinv hckZ (by omega)
    obtain ⟨sZ,hsZ⟩ : ∃ s2,lN x s (atIn l ((i:Nat):Int)) (List.replicate x.rs.length 0)=s2:=⟨_,rfl⟩
    rw [hsZ] at hstepZ
    unfold lM lC at hstepZ
    rw [hst,show W (((i:Nat):Int)+1)=((i+1:Nat):Int) from wrap_succ (by omega),hk,ho] at hstepZ
    obtain ⟨SZ,hSZ⟩ : ∃ S2,sZ.sm k=S2:=⟨_,rfl⟩
    rw [hSZ] at hstepZ
    have hiA:LInv x sA:=by rw [← hsA]; exact hinv.next hx (by omega) _ _
    have hiB:LInv x sB:=by rw [← hsB]; exact hinv.next hx (by omega) _ _
    have hiZ:LInv x sZ:=by rw [← hsZ]; exact hinv.next hx (by omega) _ _
    have hopp:OppW x sA.m sB.m sZ.m:=by
     rw [← hsA,← hsB,← hsZ]
     exact ⟨fun i hi=>(opp_w hx hinv hok0 (atIn l _) q hq0 hq1 i hi).1,fun i hi=>(opp_w hx hinv hok0 (atIn l _) q hq0 hq1 i hi).2⟩
    have hisnA : ∀ k:Nat,(k≠41∧k≠42∧k≠43) → ∀ q∈([0,3,6]:List Nat),(fun q=>if q=0 then 41 else if q=3 then 42 else if q=6 then 43 else if q<24 then 9+q else if q=24 then 33 else 37) q≠k:=by
     intro k hk q hq
     have hq2:q=0∨q=3∨q=6:=by simpa using hq
     rcases hq2 with rfl | rfl | rfl
     ·exact hk.1.symm
     ·exact hk.2.1.symm
     ·exact hk.2.2.symm
    refine Run.callR (vs:=[.ptr 0 0,.opq 24,.opq 25]) (caps:=[]) (caps2:=[]) hstepA (ent _ _ Try.func27 (by kernel_rfl) rfl) rfl rfl rfl rfl rfl rfl [.ptr 41 0,.opq 33,.opq 37] rfl (fun q=>if q=0 then 41 else if q=3 then 42 else if q=6 then 43 else if q<24 then 9+q else if q=24 then 33 else 37) rfl (fun q hq=>by have inv : ∀ q,q<26→(fun q=>if q=0 then 41 else if q=3 then 42 else if q=6 then 43 else if q<24 then 9+q else if q=24 then 33 else 37) q<50:=(by decide); exact inv q hq) (fun q hq j hj hne=>by have inj : ∀ i,i<26 → ∀ j,j<26→i≠j→(fun q=>if q=0 then 41 else if q=3 then 42 else if q=6 then 43 else if q<24 then 9+q else if q=24 then 33 else 37) i≠(fun q=>if q=0 then 41 else if q=3 then 42 else if q=6 then 43 else if q<24 then 9+q else if q=24 then 33 else 37) j:=(by decide); exact inj q hq j hj hne) (by decide)
     ⟨⟨by omega,by simp [lcells,SObj.sc,SV.scs,SV.sc],⟨_,rfl,Conv.refl _⟩,.inr (by simp),fun h=>by cases h⟩,⟨by omega,trivial,⟨_,rfl,Conv.row (by decide) rfl⟩,.inl rfl,fun _=>by simp⟩,⟨by omega,trivial,⟨_,rfl,Conv.row (by decide) rfl⟩,.inl rfl,fun _=>by simp⟩,⟨by omega,scs_st _ _,⟨_,rfl,by rw [oren_fix (S:=fun _=>False) (fun i hi=>hi.elim) (o := .row 2 x.n.N.length (s.st.flatMap Ste.cells) 139) (scs_st _ _)]; exact Conv.refl _⟩,.inr (by simp),fun h=>by cases h⟩,⟨by omega,trivial,⟨_,rfl,Conv.row (by decide) rfl⟩,.inl rfl,fun _=>by simp⟩,⟨by omega,trivial,⟨_,rfl,Conv.row (by decide) rfl⟩,.inl rfl,fun _=>by simp⟩,⟨by omega,scs_marks _ _,⟨_,rfl,by rw [oren_fix (S:=fun _=>False) (fun i hi=>hi.elim) (o := .row 4 x.pl.length (s.m.flatMap Mrk.cells) 84) (scs_marks _ _)]; exact Conv.refl _⟩,.inr (by simp),fun h=>by cases h⟩,⟨by omega,trivial,⟨_,rfl,Conv.map⟩,.inl rfl,fun _=>by simp⟩,⟨by omega,trivial,⟨_,rfl,Conv.map⟩,.inl rfl,fun _=>by simp⟩,⟨by omega,trivial,⟨_,rfl,Conv.map⟩,.inl rfl,fun _=>by simp⟩,⟨by omega,trivial,⟨_,rfl,Conv.map⟩,.inl rfl,fun _=>by simp⟩,⟨by omega,trivial,⟨_,rfl,Conv.map⟩,.inl rfl,fun _=>by simp⟩,⟨by omega,trivial,⟨_,rfl,Conv.map⟩,.inl rfl,fun _=>by simp⟩,⟨by omega,trivial,⟨_,rfl,Conv.map⟩,.inl rfl,fun _=>by simp⟩,⟨by omega,trivial,⟨_,rfl,Conv.map⟩,.inl rfl,fun _=>by simp⟩,⟨by omega,trivial,⟨_,rfl,Conv.map⟩,.inl rfl,fun _=>by simp⟩,⟨by omega,trivial,⟨_,rfl,Conv.map⟩,.inl rfl,fun _=>by simp⟩,⟨by omega,trivial,⟨_,rfl,Conv.map⟩,.inl rfl,fun _=>by simp⟩,⟨by omega,trivial,⟨_,rfl,Conv.map⟩,.inl rfl,fun _=>by simp⟩,⟨by omega,trivial,⟨_,rfl,Conv.map⟩,.inl rfl,fun _=>by simp⟩,⟨by omega,trivial,⟨_,rfl,Conv.map⟩,.inl rfl,fun _=>by simp⟩,⟨by omega,trivial,⟨_,rfl,Conv.map⟩,.inl rfl,fun _=>by simp⟩,⟨by omega,trivial,⟨_,rfl,Conv.map⟩,.inl rfl,fun _=>by simp⟩,⟨by omega,trivial,⟨_,rfl,Conv.map⟩,.inl rfl,fun _=>by simp⟩,⟨by omega,trivial,⟨_,rfl,Conv.row (by decide) (ints_iv _)⟩,.inl rfl,fun _=>by simp⟩,⟨by omega,trivial,⟨_,rfl,Conv.row (by decide) (ints_iv _)⟩,.inl rfl,fun _=>by simp⟩,trivial⟩ (fun q hq=>by
      have hq2:q=0∨q=3∨q=6:=by simpa using hq
      rcases hq2 with rfl | rfl | rfl <;> exact ⟨by omega,_,rfl⟩) (.tup [.opq 51,ii 0]) ((50,.kmap false true (sentE SA))::(51,.row 1 o.length (o.map fun x=>ii x) 3)::(47,.cells [ii ((i:Nat):Int),.opq 10,ii x.n.inp,.opq 11,.opq 48,.mp 17,.mp 18,.mp 19,.mp 20,.mp 21,.mp 22,.mp 23,.mp 24,.mp 25,.mp 26,.mp 27,.mp 28,.mp 29,.mp 30,.mp 31,.mp 32,.opq 13,.opq 14,.opq 49,.mp 16] 96)::(48,.row 2 x.n.N.length (s.st.flatMap Ste.cells) 139)::(49,.row 4 x.pl.length (s.m.flatMap Mrk.cells) 84)::(44,.cells [ii ((i:Nat):Int),.opq 10,ii x.n.inp,.opq 11,.opq 45,.mp 17,.mp 18,.mp 19,.mp 20,.mp 21,.mp 22,.mp 23,.mp 24,.mp 25,.mp 26,.mp 27,.mp 28,.mp 29,.mp 30,.mp 31,.mp 32,.opq 13,.opq 14,.opq 46,.mp 16] 96)::(45,.row 2 x.n.N.length (s.st.flatMap Ste.cells) 139)::(46,.row 4 x.pl.length (s.m.flatMap Mrk.cells) 84)::(41,(SObj.cells (lcells (ii ((i+1:Nat):Int)) x.n.inp (fun j => .mp (if j=k then 26 else 8+j)) (.mp 7)) 96).ren (shR (fun q=>if q=0 then 41 else if q=3 then 42 else if q=6 then 43 else if q<24 then 9+q else if q=24 then 33 else 37) 26 50))::(42,.row 2 x.n.N.length (sA.st.flatMap Ste.cells) 139)::(43,.row 4 x.pl.length (sA.m.flatMap Mrk.cells) 84)::(37,.row 1 x.rs.length ((List.replicate x.rs.length q).map fun x=>ii x) 3)::(40,.row 1 x.rs.length ((List.replicate x.rs.length (-q)).map fun x=>ii x) 3)::(33,.row 1 (atIn l ((i:Nat):Int)).length ((atIn l ((i:Nat):Int)).map fun x=>ii x) 3)::(9,.cells [ii ((i:Nat):Int),.opq 10,ii x.n.inp,.opq 11,.opq 12,.mp 17,.mp 18,.mp 19,.mp 20,.mp 21,.mp 22,.mp 23,.mp 24,.mp 25,.mp 26,.mp 27,.mp 28,.mp 29,.mp 30,.mp 31,.mp 32,.opq 13,.opq 14,.opq 15,.mp 16] 96)::(10,.row 8 x.n.N.length ((x.n.N.flatMap Prm.vals).map .v) 60)::(11,.row 4 x.n.S.length ((x.n.S.flatMap Syn.vals).map .v) 55)::(12,.row 2 x.n.N.length (s.st.flatMap Ste.cells) 139)::(13,.row 10 x.rs.length ((x.rs.flatMap Rul.vals).map .v) 36)::(14,.row 1 x.pl.length ((ints x.pl).map .v) 3)::(15,.row 4 x.pl.length (s.m.flatMap Mrk.cells) 84)::(16,.kmap true true x.tot)::(17,.kmap false false (sentE (s.sm 0)))::(18,.kmap false false (sentE (s.sm 1)))::(19,.kmap false false (sentE (s.sm 2)))::(20,.kmap false false (sentE (s.sm 3)))::(21,.kmap false false (sentE (s.sm 4)))::(22,.kmap false false (sentE (s.sm 5)))::(23,.kmap false false (sentE (s.sm 6)))::(24,.kmap false false (sentE (s.sm 7)))::(25,.kmap false false (sentE (s.sm 8)))::(26,.kmap false false (sentE (s.sm 9)))::(27,.kmap false false (sentE (s.sm 10)))::(28,.kmap false false (sentE (s.sm 11)))::(29,.kmap false false (sentE (s.sm 12)))::(30,.kmap false false (sentE (s.sm 13)))::(31,.kmap false false (sentE (s.sm 14)))::(32,.kmap false false (sentE (s.sm 15)))::(8,.row 10 x.rs.length (x.rs.flatMap Rul.cells) 36)::(6,.cells [.opq 0,ii x.n.inp,.opq 1,.opq 8,.opq 3,.opq 4,.opq 5,ii (KN:Int)] 45)::(0,.rwin 8 x.n.N.length (x.n.N.flatMap Prm.vals))::(1,.rwin 4 x.n.S.length (x.n.S.flatMap Syn.vals))::(3,.rwin 1 x.pl.length (ints x.pl))::(4,.rwin 2 l.length (l.flatMap Evt.vals))::(5,.rwin 3 p.length (p.flatMap Prz.vals))::[]) 52 rfl rfl
     ⟨.inr ⟨26,_,rfl,rfl,rfl,rfl⟩,.inr ⟨27,_,rfl,rfl,(oren_fix (S:=fun _=>False) (fun i hi=>hi.elim) (o := .row 1 o.length (o.map fun x=>ii x) 3) (scs_i _ _)).symm,rfl⟩,.inl ⟨rfl,hisnA 47 (by decide)⟩,.inl ⟨rfl,hisnA 48 (by decide)⟩,.inl ⟨rfl,hisnA 49 (by decide)⟩,.inl ⟨rfl,hisnA 44 (by decide)⟩,.inl ⟨rfl,hisnA 45 (by decide)⟩,.inl ⟨rfl,hisnA 46 (by decide)⟩,.inr ⟨0,_,rfl,rfl,rfl,rfl⟩,.inr ⟨3,_,rfl,rfl,(oren_fix (S:=fun _=>False) (fun i hi=>hi.elim) (o := .row 2 x.n.N.length (sA.st.flatMap Ste.cells) 139) (scs_st _ _)).symm,rfl⟩,.inr ⟨6,_,rfl,rfl,(oren_fix (S:=fun _=>False) (fun i hi=>hi.elim) (o := .row 4 x.pl.length (sA.m.flatMap Mrk.cells) 84) (scs_marks _ _)).symm,rfl⟩,.inl ⟨rfl,hisnA 37 (by decide)⟩,.inl ⟨rfl,hisnA 40 (by decide)⟩,.inl ⟨rfl,hisnA 33 (by decide)⟩,.inl ⟨rfl,hisnA 9 (by decide)⟩,.inl ⟨rfl,hisnA 10 (by decide)⟩,.inl ⟨rfl,hisnA 11 (by decide)⟩,.inl ⟨rfl,hisnA 12 (by decide)⟩,.inl ⟨rfl,hisnA 13 (by decide)⟩,.inl ⟨rfl,hisnA 14 (by decide)⟩,.inl ⟨rfl,hisnA 15 (by decide)⟩,.inl ⟨rfl,hisnA 16 (by decide)⟩,.inl ⟨rfl,hisnA 17 (by decide)⟩,.inl ⟨rfl,hisnA 18 (by decide)⟩,.inl ⟨rfl,hisnA 19 (by decide)⟩,.inl ⟨rfl,hisnA 20 (by decide)⟩,.inl ⟨rfl,hisnA 21 (by decide)⟩,.inl ⟨rfl,hisnA 22 (by decide)⟩,.inl ⟨rfl,hisnA 23 (by decide)⟩,.inl ⟨rfl,hisnA 24 (by decide)⟩,.inl ⟨rfl,hisnA 25 (by decide)⟩,.inl ⟨rfl,hisnA 26 (by decide)⟩,.inl ⟨rfl,hisnA 27 (by decide)⟩,.inl ⟨rfl,hisnA 28 (by decide)⟩,.inl ⟨rfl,hisnA 29 (by decide)⟩,.inl ⟨rfl,hisnA 30 (by decide)⟩,.inl ⟨rfl,hisnA 31 (by decide)⟩,.inl ⟨rfl,hisnA 32 (by decide)⟩,.inl ⟨rfl,hisnA 8 (by decide)⟩,.inl ⟨rfl,hisnA 6 (by decide)⟩,.inl ⟨rfl,hisnA 0 (by decide)⟩,.inl ⟨rfl,hisnA 1 (by decide)⟩,.inl ⟨rfl,hisnA 3 (by decide)⟩,.inl ⟨rfl,hisnA 4 (by decide)⟩,.inl ⟨rfl,hisnA 5 (by decide)⟩,trivial⟩ ?_
    refine Run.of_wpK (hc w [] none (fun _ h=>by cases h)) 1000 _ ?_
    conv=>whnf
    have hisnB : ∀ k:Nat,(k≠44∧k≠45∧k≠46) → ∀ q∈([0,3,6]:List Nat),(fun q=>if q=0 then 44 else if q=3 then 45 else if q=6 then 46 else if q<24 then 9+q else if q=24 then 33 else 40) q≠k:=by
     intro k hk q hq
     have hq2:q=0∨q=3∨q=6:=by simpa using hq
     rcases hq2 with rfl | rfl | rfl
     ·exact hk.1.symm
     ·exact hk.2.1.symm
     ·exact hk.2.2.symm
    refine Run.callR (vs:=[.ptr 0 0,.opq 24,.opq 25]) (caps:=[]) (caps2:=[]) hstepB (ent _ _ Try.func27 (by kernel_rfl) rfl) rfl rfl rfl rfl rfl rfl [.ptr 44 0,.opq 33,.opq 40] rfl (fun q=>if q=0 then 44 else if q=3 then 45 else if q=6 then 46 else if q<24 then 9+q else if q=24 then 33 else 40) rfl (fun q hq=>by have inv : ∀ q,q<26→(fun q=>if q=0 then 44 else if q=3 then 45 else if q=6 then 46 else if q<24 then 9+q else if q=24 then 33 else 40) q<52:=(by decide); exact inv q hq) (fun q hq j hj hne=>by have inj : ∀ i,i<26 → ∀ j,j<26→i≠j→(fun q=>if q=0 then 44 else if q=3 then 45 else if q=6 then 46 else if q<24 then 9+q else if q=24 then 33 else 40) i≠(fun q=>if q=0 then 44 else if q=3 then 45 else if q=6 then 46 else if q<24 then 9+q else if q=24 then 33 else 40) j:=(by decide); exact inj q hq j hj hne) (by decide)
     ⟨⟨by omega,by simp [lcells,SObj.sc,SV.scs,SV.sc],⟨_,rfl,Conv.refl _⟩,.inr (by simp),fun h=>by cases h⟩,⟨by omega,trivial,⟨_,rfl,Conv.row (by decide) rfl⟩,.inl rfl,fun _=>by simp⟩,⟨by omega,trivial,⟨_,rfl,Conv.row (by decide) rfl⟩,.inl rfl,fun _=>by simp⟩,⟨by omega,scs_st _ _,⟨_,rfl,by rw [oren_fix (S:=fun _=>False) (fun i hi=>hi.elim) (o := .row 2 x.n.N.length (s.st.flatMap Ste.cells) 139) (scs_st _ _)]; exact Conv.refl _⟩,.inr (by simp),fun h=>by cases h⟩,⟨by omega,trivial,⟨_,rfl,Conv.row (by decide) rfl⟩,.inl rfl,fun _=>by simp⟩,⟨by omega,trivial,⟨_,rfl,Conv.row (by decide) rfl⟩,.inl rfl,fun _=>by simp⟩,⟨by omega,scs_marks _ _,⟨_,rfl,by rw [oren_fix (S:=fun _=>False) (fun i hi=>hi.elim) (o := .row 4 x.pl.length (s.m.flatMap Mrk.cells) 84) (scs_marks _ _)]; exact Conv.refl _⟩,.inr (by simp),fun h=>by cases h⟩,⟨by omega,trivial,⟨_,rfl,Conv.map⟩,.inl rfl,fun _=>by simp⟩,⟨by omega,trivial,⟨_,rfl,Conv.map⟩,.inl rfl,fun _=>by simp⟩,⟨by omega,trivial,⟨_,rfl,Conv.map⟩,.inl rfl,fun _=>by simp⟩,⟨by omega,trivial,⟨_,rfl,Conv.map⟩,.inl rfl,fun _=>by simp⟩,⟨by omega,trivial,⟨_,rfl,Conv.map⟩,.inl rfl,fun _=>by simp⟩,⟨by omega,trivial,⟨_,rfl,Conv.map⟩,.inl rfl,fun _=>by simp⟩,⟨by omega,trivial,⟨_,rfl,Conv.map⟩,.inl rfl,fun _=>by simp⟩,⟨by omega,trivial,⟨_,rfl,Conv.map⟩,.inl rfl,fun _=>by simp⟩,⟨by omega,trivial,⟨_,rfl,Conv.map⟩,.inl rfl,fun _=>by simp⟩,⟨by omega,trivial,⟨_,rfl,Conv.map⟩,.inl rfl,fun _=>by simp⟩,⟨by omega,trivial,⟨_,rfl,Conv.map⟩,.inl rfl,fun _=>by simp⟩,⟨by omega,trivial,⟨_,rfl,Conv.map⟩,.inl rfl,fun _=>by simp⟩,⟨by omega,trivial,⟨_,rfl,Conv.map⟩,.inl rfl,fun _=>by simp⟩,⟨by omega,trivial,⟨_,rfl,Conv.map⟩,.inl rfl,fun _=>by simp⟩,⟨by omega,trivial,⟨_,rfl,Conv.map⟩,.inl rfl,fun _=>by simp⟩,⟨by omega,trivial,⟨_,rfl,Conv.map⟩,.inl rfl,fun _=>by simp⟩,⟨by omega,trivial,⟨_,rfl,Conv.map⟩,.inl rfl,fun _=>by simp⟩,⟨by omega,trivial,⟨_,rfl,Conv.row (by decide) (ints_iv _)⟩,.inl rfl,fun _=>by simp⟩,⟨by omega,trivial,⟨_,rfl,Conv.row (by decide) (ints_iv _)⟩,.inl rfl,fun _=>by simp⟩,trivial⟩ (fun q hq=>by
      have hq2:q=0∨q=3∨q=6:=by simpa using hq
      rcases hq2 with rfl | rfl | rfl <;> exact ⟨by omega,_,rfl⟩) (.tup [.opq 53,ii 0]) ((52,.kmap false true (sentE SB))::(53,.row 1 o.length (o.map fun x=>ii x) 3)::(50,.kmap false true (sentE SA))::(51,.row 1 o.length (o.map fun x=>ii x) 3)::(47,.cells [ii ((i:Nat):Int),.opq 10,ii x.n.inp,.opq 11,.opq 48,.mp 17,.mp 18,.mp 19,.mp 20,.mp 21,.mp 22,.mp 23,.mp 24,.mp 25,.mp 26,.mp 27,.mp 28,.mp 29,.mp 30,.mp 31,.mp 32,.opq 13,.opq 14,.opq 49,.mp 16] 96)::(48,.row 2 x.n.N.length (s.st.flatMap Ste.cells) 139)::(49,.row 4 x.pl.length (s.m.flatMap Mrk.cells) 84)::(44,(SObj.cells (lcells (ii ((i+1:Nat):Int)) x.n.inp (fun j => .mp (if j=k then 26 else 8+j)) (.mp 7)) 96).ren (shR (fun q=>if q=0 then 44 else if q=3 then 45 else if q=6 then 46 else if q<24 then 9+q else if q=24 then 33 else 40) 26 52))::(45,.row 2 x.n.N.length (sB.st.flatMap Ste.cells) 139)::(46,.row 4 x.pl.length (sB.m.flatMap Mrk.cells) 84)::(41,(SObj.cells (lcells (ii ((i+1:Nat):Int)) x.n.inp (fun j => .mp (if j=k then 26 else 8+j)) (.mp 7)) 96).ren (shR (fun q=>if q=0 then 41 else if q=3 then 42 else if q=6 then 43 else if q<24 then 9+q else if q=24 then 33 else 37) 26 50))::(42,.row 2 x.n.N.length (sA.st.flatMap Ste.cells) 139)::(43,.row 4 x.pl.length (sA.m.flatMap Mrk.cells) 84)::(37,.row 1 x.rs.length ((List.replicate x.rs.length q).map fun x=>ii x) 3)::(40,.row 1 x.rs.length ((List.replicate x.rs.length (-q)).map fun x=>ii x) 3)::(33,.row 1 (atIn l ((i:Nat):Int)).length ((atIn l ((i:Nat):Int)).map fun x=>ii x) 3)::(9,.cells [ii ((i:Nat):Int),.opq 10,ii x.n.inp,.opq 11,.opq 12,.mp 17,.mp 18,.mp 19,.mp 20,.mp 21,.mp 22,.mp 23,.mp 24,.mp 25,.mp 26,.mp 27,.mp 28,.mp 29,.mp 30,.mp 31,.mp 32,.opq 13,.opq 14,.opq 15,.mp 16] 96)::(10,.row 8 x.n.N.length ((x.n.N.flatMap Prm.vals).map .v) 60)::(11,.row 4 x.n.S.length ((x.n.S.flatMap Syn.vals).map .v) 55)::(12,.row 2 x.n.N.length (s.st.flatMap Ste.cells) 139)::(13,.row 10 x.rs.length ((x.rs.flatMap Rul.vals).map .v) 36)::(14,.row 1 x.pl.length ((ints x.pl).map .v) 3)::(15,.row 4 x.pl.length (s.m.flatMap Mrk.cells) 84)::(16,.kmap true true x.tot)::(17,.kmap false false (sentE (s.sm 0)))::(18,.kmap false false (sentE (s.sm 1)))::(19,.kmap false false (sentE (s.sm 2)))::(20,.kmap false false (sentE (s.sm 3)))::(21,.kmap false false (sentE (s.sm 4)))::(22,.kmap false false (sentE (s.sm 5)))::(23,.kmap false false (sentE (s.sm 6)))::(24,.kmap false false (sentE (s.sm 7)))::(25,.kmap false false (sentE (s.sm 8)))::(26,.kmap false false (sentE (s.sm 9)))::(27,.kmap false false (sentE (s.sm 10)))::(28,.kmap false false (sentE (s.sm 11)))::(29,.kmap false false (sentE (s.sm 12)))::(30,.kmap false false (sentE (s.sm 13)))::(31,.kmap false false (sentE (s.sm 14)))::(32,.kmap false false (sentE (s.sm 15)))::(8,.row 10 x.rs.length (x.rs.flatMap Rul.cells) 36)::(6,.cells [.opq 0,ii x.n.inp,.opq 1,.opq 8,.opq 3,.opq 4,.opq 5,ii (KN:Int)] 45)::(0,.rwin 8 x.n.N.length (x.n.N.flatMap Prm.vals))::(1,.rwin 4 x.n.S.length (x.n.S.flatMap Syn.vals))::(3,.rwin 1 x.pl.length (ints x.pl))::(4,.rwin 2 l.length (l.flatMap Evt.vals))::(5,.rwin 3 p.length (p.flatMap Prz.vals))::[]) 54 rfl rfl
     ⟨.inr ⟨26,_,rfl,rfl,rfl,rfl⟩,.inr ⟨27,_,rfl,rfl,(oren_fix (S:=fun _=>False) (fun i hi=>hi.elim) (o := .row 1 o.length (o.map fun x=>ii x) 3) (scs_i _ _)).symm,rfl⟩,.inl ⟨rfl,hisnB 50 (by decide)⟩,.inl ⟨rfl,hisnB 51 (by decide)⟩,.inl ⟨rfl,hisnB 47 (by decide)⟩,.inl ⟨rfl,hisnB 48 (by decide)⟩,.inl ⟨rfl,hisnB 49 (by decide)⟩,.inr ⟨0,_,rfl,rfl,rfl,rfl⟩,.inr ⟨3,_,rfl,rfl,(oren_fix (S:=fun _=>False) (fun i hi=>hi.elim) (o := .row 2 x.n.N.length (sB.st.flatMap Ste.cells) 139) (scs_st _ _)).symm,rfl⟩,.inr ⟨6,_,rfl,rfl,(oren_fix (S:=fun _=>False) (fun i hi=>hi.elim) (o := .row 4 x.pl.length (sB.m.flatMap Mrk.cells) 84) (scs_marks _ _)).symm,rfl⟩,.inl ⟨rfl,hisnB 41 (by decide)⟩,.inl ⟨rfl,hisnB 42 (by decide)⟩,.inl ⟨rfl,hisnB 43 (by decide)⟩,.inl ⟨rfl,hisnB 37 (by decide)⟩,.inl ⟨rfl,hisnB 40 (by decide)⟩,.inl ⟨rfl,hisnB 33 (by decide)⟩,.inl ⟨rfl,hisnB 9 (by decide)⟩,.inl ⟨rfl,hisnB 10 (by decide)⟩,.inl ⟨rfl,hisnB 11 (by decide)⟩,.inl ⟨rfl,hisnB 12 (by decide)⟩,.inl ⟨rfl,hisnB 13 (by decide)⟩,.inl ⟨rfl,hisnB 14 (by decide)⟩,.inl ⟨rfl,hisnB 15 (by decide)⟩,.inl ⟨rfl,hisnB 16 (by decide)⟩,.inl ⟨rfl,hisnB 17 (by decide)⟩,.inl ⟨rfl,hisnB 18 (by decide)⟩,.inl ⟨rfl,hisnB 19 (by decide)⟩,.inl ⟨rfl,hisnB 20 (by decide)⟩,.inl ⟨rfl,hisnB 21 (by decide)⟩,.inl ⟨rfl,hisnB 22 (by decide)⟩,.inl ⟨rfl,hisnB 23 (by decide)⟩,.inl ⟨rfl,hisnB 24 (by decide)⟩,.inl ⟨rfl,hisnB 25 (by decide)⟩,.inl ⟨rfl,hisnB 26 (by decide)⟩,.inl ⟨rfl,hisnB 27 (by decide)⟩,.inl ⟨rfl,hisnB 28 (by decide)⟩,.inl ⟨rfl,hisnB 29 (by decide)⟩,.inl ⟨rfl,hisnB 30 (by decide)⟩,.inl ⟨rfl,hisnB 31 (by decide)⟩,.inl ⟨rfl,hisnB 32 (by decide)⟩,.inl ⟨rfl,hisnB 8 (by decide)⟩,.inl ⟨rfl,hisnB 6 (by decide)⟩,.inl ⟨rfl,hisnB 0 (by decide)⟩,.inl ⟨rfl,hisnB 1 (by decide)⟩,.inl ⟨rfl,hisnB 3 (by decide)⟩,.inl ⟨rfl,hisnB 4 (by decide)⟩,.inl ⟨rfl,hisnB 5 (by decide)⟩,trivial⟩ ?_
    refine Run.of_wpK (hc w [] none (fun _ h=>by cases h)) 1000 _ ?_
    conv=>whnf
    have hisnZ : ∀ k:Nat,(k≠47∧k≠48∧k≠49) → ∀ q∈([0,3,6]:List Nat),(fun q=>if q=0 then 47 else if q=3 then 48 else if q=6 then 49 else if q<24 then 9+q else if q=24 then 33 else 1) q≠k:=by
     intro k hk q hq
     have hq2:q=0∨q=3∨q=6:=by simpa using hq
     rcases hq2 with rfl | rfl | rfl
     ·exact hk.1.symm
     ·exact hk.2.1.symm
     ·exact hk.2.2.symm
    refine Run.callR (vs:=[.ptr 0 0,.opq 24,.v (.slice none 0 0)]) (caps:=[]) (caps2:=[]) hstepZ (ent _ _ Try.func27 (by kernel_rfl) rfl) rfl rfl rfl rfl rfl rfl [.ptr 47 0,.opq 33,.v (.slice none 0 0)] rfl (fun q=>if q=0 then 47 else if q=3 then 48 else if q=6 then 49 else if q<24 then 9+q else if q=24 then 33 else 1) rfl (fun q hq=>by have inv : ∀ q,q<26→(fun q=>if q=0 then 47 else if q=3 then 48 else if q=6 then 49 else if q<24 then 9+q else if q=24 then 33 else 1) q<54:=(by decide); exact inv q hq) (fun q hq j hj hne=>by have inj : ∀ i,i<26 → ∀ j,j<26→i≠j→(fun q=>if q=0 then 47 else if q=3 then 48 else if q=6 then 49 else if q<24 then 9+q else if q=24 then 33 else 1) i≠(fun q=>if q=0 then 47 else if q=3 then 48 else if q=6 then 49 else if q<24 then 9+q else if q=24 then 33 else 1) j:=(by decide); exact inj q hq j hj hne) (by decide)
     ⟨⟨by omega,by simp [lcells,SObj.sc,SV.scs,SV.sc],⟨_,rfl,Conv.refl _⟩,.inr (by simp),fun h=>by cases h⟩,⟨by omega,trivial,⟨_,rfl,Conv.row (by decide) rfl⟩,.inl rfl,fun _=>by simp⟩,⟨by omega,trivial,⟨_,rfl,Conv.row (by decide) rfl⟩,.inl rfl,fun _=>by simp⟩,⟨by omega,scs_st _ _,⟨_,rfl,by rw [oren_fix (S:=fun _=>False) (fun i hi=>hi.elim) (o := .row 2 x.n.N.length (s.st.flatMap Ste.cells) 139) (scs_st _ _)]; exact Conv.refl _⟩,.inr (by simp),fun h=>by cases h⟩,⟨by omega,trivial,⟨_,rfl,Conv.row (by decide) rfl⟩,.inl rfl,fun _=>by simp⟩,⟨by omega,trivial,⟨_,rfl,Conv.row (by decide) rfl⟩,.inl rfl,fun _=>by simp⟩,⟨by omega,scs_marks _ _,⟨_,rfl,by rw [oren_fix (S:=fun _=>False) (fun i hi=>hi.elim) (o := .row 4 x.pl.length (s.m.flatMap Mrk.cells) 84) (scs_marks _ _)]; exact Conv.refl _⟩,.inr (by simp),fun h=>by cases h⟩,⟨by omega,trivial,⟨_,rfl,Conv.map⟩,.inl rfl,fun _=>by simp⟩,⟨by omega,trivial,⟨_,rfl,Conv.map⟩,.inl rfl,fun _=>by simp⟩,⟨by omega,trivial,⟨_,rfl,Conv.map⟩,.inl rfl,fun _=>by simp⟩,⟨by omega,trivial,⟨_,rfl,Conv.map⟩,.inl rfl,fun _=>by simp⟩,⟨by omega,trivial,⟨_,rfl,Conv.map⟩,.inl rfl,fun _=>by simp⟩,⟨by omega,trivial,⟨_,rfl,Conv.map⟩,.inl rfl,fun _=>by simp⟩,⟨by omega,trivial,⟨_,rfl,Conv.map⟩,.inl rfl,fun _=>by simp⟩,⟨by omega,trivial,⟨_,rfl,Conv.map⟩,.inl rfl,fun _=>by simp⟩,⟨by omega,trivial,⟨_,rfl,Conv.map⟩,.inl rfl,fun _=>by simp⟩,⟨by omega,trivial,⟨_,rfl,Conv.map⟩,.inl rfl,fun _=>by simp⟩,⟨by omega,trivial,⟨_,rfl,Conv.map⟩,.inl rfl,fun _=>by simp⟩,⟨by omega,trivial,⟨_,rfl,Conv.map⟩,.inl rfl,fun _=>by simp⟩,⟨by omega,trivial,⟨_,rfl,Conv.map⟩,.inl rfl,fun _=>by simp⟩,⟨by omega,trivial,⟨_,rfl,Conv.map⟩,.inl rfl,fun _=>by simp⟩,⟨by omega,trivial,⟨_,rfl,Conv.map⟩,.inl rfl,fun _=>by simp⟩,⟨by omega,trivial,⟨_,rfl,Conv.map⟩,.inl rfl,fun _=>by simp⟩,⟨by omega,trivial,⟨_,rfl,Conv.map⟩,.inl rfl,fun _=>by simp⟩,⟨by omega,trivial,⟨_,rfl,Conv.row (by decide) (ints_iv _)⟩,.inl rfl,fun _=>by simp⟩,trivial⟩ (fun q hq=>by
      have hq2:q=0∨q=3∨q=6:=by simpa using hq
      rcases hq2 with rfl | rfl | rfl <;> exact ⟨by omega,_,rfl⟩) (.tup [.opq 55,ii 0]) ((54,.kmap false true (sentE SZ))::(55,.row 1 o.length (o.map fun x=>ii x) 3)::(52,.kmap false true (sentE SB))::(53,.row 1 o.length (o.map fun x=>ii x) 3)::(50,.kmap false true (sentE SA))::(51,.row 1 o.length (o.map fun x=>ii x) 3)::(47,(SObj.cells (lcells (ii ((i+1:Nat):Int)) x.n.inp (fun j => .mp (if j=k then 26 else 8+j)) (.mp 7)) 96).ren (shR (fun q=>if q=0 then 47 else if q=3 then 48 else if q=6 then 49 else if q<24 then 9+q else if q=24 then 33 else 1) 26 54))::(48,.row 2 x.n.N.length (sZ.st.flatMap Ste.cells) 139)::(49,.row 4 x.pl.length (sZ.m.flatMap Mrk.cells) 84)::(44,(SObj.cells (lcells (ii ((i+1:Nat):Int)) x.n.inp (fun j => .mp (if j=k then 26 else 8+j)) (.mp 7)) 96).ren (shR (fun q=>if q=0 then 44 else if q=3 then 45 else if q=6 then 46 else if q<24 then 9+q else if q=24 then 33 else 40) 26 52))::(45,.row 2 x.n.N.length (sB.st.flatMap Ste.cells) 139)::(46,.row 4 x.pl.length (sB.m.flatMap Mrk.cells) 84)::(41,(SObj.cells (lcells (ii ((i+1:Nat):Int)) x.n.inp (fun j => .mp (if j=k then 26 else 8+j)) (.mp 7)) 96).ren (shR (fun q=>if q=0 then 41 else if q=3 then 42 else if q=6 then 43 else if q<24 then 9+q else if q=24 then 33 else 37) 26 50))::(42,.row 2 x.n.N.length (sA.st.flatMap Ste.cells) 139)::(43,.row 4 x.pl.length (sA.m.flatMap Mrk.cells) 84)::(37,.row 1 x.rs.length ((List.replicate x.rs.length q).map fun x=>ii x) 3)::(40,.row 1 x.rs.length ((List.replicate x.rs.length (-q)).map fun x=>ii x) 3)::(33,.row 1 (atIn l ((i:Nat):Int)).length ((atIn l ((i:Nat):Int)).map fun x=>ii x) 3)::(9,.cells [ii ((i:Nat):Int),.opq 10,ii x.n.inp,.opq 11,.opq 12,.mp 17,.mp 18,.mp 19,.mp 20,.mp 21,.mp 22,.mp 23,.mp 24,.mp 25,.mp 26,.mp 27,.mp 28,.mp 29,.mp 30,.mp 31,.mp 32,.opq 13,.opq 14,.opq 15,.mp 16] 96)::(10,.row 8 x.n.N.length ((x.n.N.flatMap Prm.vals).map .v) 60)::(11,.row 4 x.n.S.length ((x.n.S.flatMap Syn.vals).map .v) 55)::(12,.row 2 x.n.N.length (s.st.flatMap Ste.cells) 139)::(13,.row 10 x.rs.length ((x.rs.flatMap Rul.vals).map .v) 36)::(14,.row 1 x.pl.length ((ints x.pl).map .v) 3)::(15,.row 4 x.pl.length (s.m.flatMap Mrk.cells) 84)::(16,.kmap true true x.tot)::(17,.kmap false false (sentE (s.sm 0)))::(18,.kmap false false (sentE (s.sm 1)))::(19,.kmap false false (sentE (s.sm 2)))::(20,.kmap false false (sentE (s.sm 3)))::(21,.kmap false false (sentE (s.sm 4)))::(22,.kmap false false (sentE (s.sm 5)))::(23,.kmap false false (sentE (s.sm 6)))::(24,.kmap false false (sentE (s.sm 7)))::(25,.kmap false false (sentE (s.sm 8)))::(26,.kmap false false (sentE (s.sm 9)))::(27,.kmap false false (sentE (s.sm 10)))::(28,.kmap false false (sentE (s.sm 11)))::(29,.kmap false false (sentE (s.sm 12)))::(30,.kmap false false (sentE (s.sm 13)))::(31,.kmap false false (sentE (s.sm 14)))::(32,.kmap false false (sentE (s.sm 15)))::(8,.row 10 x.rs.length (x.rs.flatMap Rul.cells) 36)::(6,.cells [.opq 0,ii x.n.inp,.opq 1,.opq 8,.opq 3,.opq 4,.opq 5,ii (KN:Int)] 45)::(0,.rwin 8 x.n.N.length (x.n.N.flatMap Prm.vals))::(1,.rwin 4 x.n.S.length (x.n.S.flatMap Syn.vals))::(3,.rwin 1 x.pl.length (ints x.pl))::(4,.rwin 2 l.length (l.flatMap Evt.vals))::(5,.rwin 3 p.length (p.flatMap Prz.vals))::[]) 56 rfl rfl
     ⟨.inr ⟨26,_,rfl,rfl,rfl,rfl⟩,.inr ⟨27,_,rfl,rfl,(oren_fix (S:=fun _=>False) (fun i hi=>hi.elim) (o := .row 1 o.length (o.map fun x=>ii x) 3) (scs_i _ _)).symm,rfl⟩,.inl ⟨rfl,hisnZ 52 (by decide)⟩,.inl ⟨rfl,hisnZ 53 (by decide)⟩,.inl ⟨rfl,hisnZ 50 (by decide)⟩,.inl ⟨rfl,hisnZ 51 (by decide)⟩,.inr ⟨0,_,rfl,rfl,rfl,rfl⟩,.inr ⟨3,_,rfl,rfl,(oren_fix (S:=fun _=>False) (fun i hi=>hi.elim) (o := .row 2 x.n.N.length (sZ.st.flatMap Ste.cells) 139) (scs_st _ _)).symm,rfl⟩,.inr ⟨6,_,rfl,rfl,(oren_fix (S:=fun _=>False) (fun i hi=>hi.elim) (o := .row 4 x.pl.length (sZ.m.flatMap Mrk.cells) 84) (scs_marks _ _)).symm,rfl⟩,.inl ⟨rfl,hisnZ 44 (by decide)⟩,.inl ⟨rfl,hisnZ 45 (by decide)⟩,.inl ⟨rfl,hisnZ 46 (by decide)⟩,.inl ⟨rfl,hisnZ 41 (by decide)⟩,.inl ⟨rfl,hisnZ 42 (by decide)⟩,.inl ⟨rfl,hisnZ 43 (by decide)⟩,.inl ⟨rfl,hisnZ 37 (by decide)⟩,.inl ⟨rfl,hisnZ 40 (by decide)⟩,.inl ⟨rfl,hisnZ 33 (by decide)⟩,.inl ⟨rfl,hisnZ 9 (by decide)⟩,.inl ⟨rfl,hisnZ 10 (by decide)⟩,.inl ⟨rfl,hisnZ 11 (by decide)⟩,.inl ⟨rfl,hisnZ 12 (by decide)⟩,.inl ⟨rfl,hisnZ 13 (by decide)⟩,.inl ⟨rfl,hisnZ 14 (by decide)⟩,.inl ⟨rfl,hisnZ 15 (by decide)⟩,.inl ⟨rfl,hisnZ 16 (by decide)⟩,.inl ⟨rfl,hisnZ 17 (by decide)⟩,.inl ⟨rfl,hisnZ 18 (by decide)⟩,.inl ⟨rfl,hisnZ 19 (by decide)⟩,.inl ⟨rfl,hisnZ 20 (by decide)⟩,.inl ⟨rfl,hisnZ 21 (by decide)⟩,.inl ⟨rfl,hisnZ 22 (by decide)⟩,.inl ⟨rfl,hisnZ 23 (by decide)⟩,.inl ⟨rfl,hisnZ 24 (by decide)⟩,.inl ⟨rfl,hisnZ 25 (by decide)⟩,.inl ⟨rfl,hisnZ 26 (by decide)⟩,.inl ⟨rfl,hisnZ 27 (by decide)⟩,.inl ⟨rfl,hisnZ 28 (by decide)⟩,.inl ⟨rfl,hisnZ 29 (by decide)⟩,.inl ⟨rfl,hisnZ 30 (by decide)⟩,.inl ⟨rfl,hisnZ 31 (by decide)⟩,.inl ⟨rfl,hisnZ 32 (by decide)⟩,.inl ⟨rfl,hisnZ 8 (by decide)⟩,.inl ⟨rfl,hisnZ 6 (by decide)⟩,.inl ⟨rfl,hisnZ 0 (by decide)⟩,.inl ⟨rfl,hisnZ 1 (by decide)⟩,.inl ⟨rfl,hisnZ 3 (by decide)⟩,.inl ⟨rfl,hisnZ 4 (by decide)⟩,.inl ⟨rfl,hisnZ 5 (by decide)⟩,trivial⟩ ?_
    refine Run.of_wpK (hc w [] none (fun _ h=>by cases h)) 1000 _ ?_
    conv=>whnf
    refine Run.callE (g:=31) (vs:=[.opq 51,.opq 53]) (caps:=[]) (.v (.bool true)) (fun ρ w1 hW=>by
     have q1:=hW.rowsAtR (i:=51) rfl (by decide)
     have q2:=hW.rowsAtR (i:=53) rfl (by decide)
     rw [concs_i] at q1 q2
     have:=equal_run _ _ o o w1 q1 q2 (by omega)
     rw [decide_eq_true rfl] at this
     exact this) (ent _ _ Try.func31 (by kernel_rfl) rfl) rfl rfl rfl rfl rfl rfl rfl trivial ?_
    refine Run.of_wpK (hc w [] none (fun _ h=>by cases h)) 1000 _ ?_
    conv=>whnf
    have hisO : ∀ k':Nat,(k'≠41∧k'≠44∧k'≠47) → ∀ q∈([0,24,43]:List Nat),(fun q=>if q=0 then 41 else if q=3 then 42 else if q=6 then 43 else if q<8 then 9+q else if q<24 then (if q-8=k then 50 else 9+q) else if q<27 then 20+q else if q<43 then (if q-27=k then 52 else q-10) else if q<46 then 4+q else if q<62 then (if q-46=k then 54 else q-29) else if q=62 then 0 else if q=63 then 1 else if q=64 then 8 else if q=65 then 3 else if q=66 then 4 else 5) q≠k':=by
     intro k' hk' q hq
     have hq2:q=0∨q=24∨q=43:=by simpa using hq
     rcases hq2 with rfl | rfl | rfl
     ·exact hk'.1.symm
     ·exact hk'.2.1.symm
     ·exact hk'.2.2.symm
    have hROb : ∀ q,q<68→(fun q=>if q=0 then 41 else if q=3 then 42 else if q=6 then 43 else if q<8 then 9+q else if q<24 then (if q-8=k then 50 else 9+q) else if q<27 then 20+q else if q<43 then (if q-27=k then 52 else q-10) else if q<46 then 4+q else if q<62 then (if q-46=k then 54 else q-29) else if q=62 then 0 else if q=63 then 1 else if q=64 then 8 else if q=65 then 3 else if q=66 then 4 else 5) q<56:=by rcases lt16 hk16 with rfl | rfl | rfl | rfl | rfl | rfl | rfl | rfl | rfl | rfl | rfl | rfl | rfl | rfl | rfl | rfl <;> decide
    have hROi : ∀ i∈([0,3,6,24,25,26,43,44,45,1,2,63,64,65]:List Nat),∀ j∈([0,3,6,24,25,26,43,44,45,1,2,63,64,65]:List Nat),i≠j→(fun q=>if q=0 then 41 else if q=3 then 42 else if q=6 then 43 else if q<8 then 9+q else if q<24 then (if q-8=k then 50 else 9+q) else if q<27 then 20+q else if q<43 then (if q-27=k then 52 else q-10) else if q<46 then 4+q else if q<62 then (if q-46=k then 54 else q-29) else if q=62 then 0 else if q=63 then 1 else if q=64 then 8 else if q=65 then 3 else if q=66 then 4 else 5) i≠(fun q=>if q=0 then 41 else if q=3 then 42 else if q=6 then 43 else if q<8 then 9+q else if q<24 then (if q-8=k then 50 else 9+q) else if q<27 then 20+q else if q<43 then (if q-27=k then 52 else q-10) else if q<46 then 4+q else if q<62 then (if q-46=k then 54 else q-29) else if q=62 then 0 else if q=63 then 1 else if q=64 then 8 else if q=65 then 3 else if q=66 then 4 else 5) j:=by rcases lt16 hk16 with rfl | rfl | rfl | rfl | rfl | rfl | rfl | rfl | rfl | rfl | rfl | rfl | rfl | rfl | rfl | rfl <;> decide
    refine Run.callA (vs:=[.agg [.opq 62,ii x.n.inp,.opq 63,.opq 64,.opq 65,.opq 66,.opq 67,ii (KN:Int)],.ptr 0 0,.ptr 24 0,.ptr 43 0]) (caps:=[]) (caps2:=[]) (opposite_spec x hx ((i+1:Nat):Int) (KN:Int) sA sB sZ hiA hiB hiZ hopp) (ent _ _ Try.func32 (by kernel_rfl) rfl) rfl rfl rfl rfl rfl rfl [.agg [.opq 0,ii x.n.inp,.opq 1,.opq 8,.opq 3,.opq 4,.opq 5,ii (KN:Int)],.ptr 41 0,.ptr 44 0,.ptr 47 0] rfl (fun q=>if q=0 then 41 else if q=3 then 42 else if q=6 then 43 else if q<8 then 9+q else if q<24 then (if q-8=k then 50 else 9+q) else if q<27 then 20+q else if q<43 then (if q-27=k then 52 else q-10) else if q<46 then 4+q else if q<62 then (if q-46=k then 54 else q-29) else if q=62 then 0 else if q=63 then 1 else if q=64 then 8 else if q=65 then 3 else if q=66 then 4 else 5) rfl hROb [0,3,6,24,25,26,43,44,45,1,2,63,64,65] rfl hROi (by decide)
     ⟨⟨by omega,by simp [SObj.sc,SV.scs,SV.sc],⟨_,rfl,by rcases lt16 hk16 with rfl | rfl | rfl | rfl | rfl | rfl | rfl | rfl | rfl | rfl | rfl | rfl | rfl | rfl | rfl | rfl <;> exact Conv.refl _⟩,.inr (by simp),fun h=>by cases h⟩,⟨by omega,trivial,⟨_,rfl,Conv.row (by decide) (steV _)⟩,.inl rfl,fun _=>by simp⟩,⟨by omega,trivial,⟨_,rfl,Conv.row (by decide) (marks_v _)⟩,.inl rfl,fun _=>by simp⟩,⟨by omega,by simp [SObj.sc,SV.scs,SV.sc],⟨_,rfl,by rcases lt16 hk16 with rfl | rfl | rfl | rfl | rfl | rfl | rfl | rfl | rfl | rfl | rfl | rfl | rfl | rfl | rfl | rfl <;> exact Conv.refl _⟩,.inr (by simp),fun h=>by cases h⟩,⟨by omega,trivial,⟨_,rfl,Conv.row (by decide) (steV _)⟩,.inl rfl,fun _=>by simp⟩,⟨by omega,trivial,⟨_,rfl,Conv.row (by decide) (marks_v _)⟩,.inl rfl,fun _=>by simp⟩,⟨by omega,by simp [SObj.sc,SV.scs,SV.sc],⟨_,rfl,by rcases lt16 hk16 with rfl | rfl | rfl | rfl | rfl | rfl | rfl | rfl | rfl | rfl | rfl | rfl | rfl | rfl | rfl | rfl <;> exact Conv.refl _⟩,.inr (by simp),fun h=>by cases h⟩,⟨by omega,trivial,⟨_,rfl,Conv.row (by decide) (steV _)⟩,.inl rfl,fun _=>by simp⟩,⟨by omega,trivial,⟨_,rfl,Conv.row (by decide) (marks_v _)⟩,.inl rfl,fun _=>by simp⟩,⟨by omega,trivial,⟨_,rfl,Conv.row (by decide) rfl⟩,.inl rfl,fun _=>by simp⟩,⟨by omega,trivial,⟨_,rfl,Conv.row (by decide) rfl⟩,.inl rfl,fun _=>by simp⟩,⟨by omega,trivial,⟨_,rfl,Conv.refl _⟩,.inl rfl,fun _=>by simp⟩,⟨by omega,trivial,⟨_,rfl,Conv.row (by decide) (ruls_v _)⟩,.inl rfl,fun _=>by simp⟩,⟨by omega,trivial,⟨_,rfl,Conv.refl _⟩,.inl rfl,fun _=>by simp⟩,trivial⟩ (fun q hq=>by
      have hq2:q=0∨q=24∨q=43:=by simpa using hq
      rcases hq2 with rfl | rfl | rfl <;> exact ⟨by omega,_,rfl⟩) (.v (.bool true)) ((9,.cells [ii ((i:Nat):Int),.opq 10,ii x.n.inp,.opq 11,.opq 12,.mp 17,.mp 18,.mp 19,.mp 20,.mp 21,.mp 22,.mp 23,.mp 24,.mp 25,.mp 26,.mp 27,.mp 28,.mp 29,.mp 30,.mp 31,.mp 32,.opq 13,.opq 14,.opq 15,.mp 16] 96)::(10,.row 8 x.n.N.length ((x.n.N.flatMap Prm.vals).map .v) 60)::(11,.row 4 x.n.S.length ((x.n.S.flatMap Syn.vals).map .v) 55)::(12,.row 2 x.n.N.length (s.st.flatMap Ste.cells) 139)::(13,.row 10 x.rs.length ((x.rs.flatMap Rul.vals).map .v) 36)::(14,.row 1 x.pl.length ((ints x.pl).map .v) 3)::(15,.row 4 x.pl.length (s.m.flatMap Mrk.cells) 84)::(16,.kmap true true x.tot)::(17,.kmap false false (sentE (s.sm 0)))::(18,.kmap false false (sentE (s.sm 1)))::(19,.kmap false false (sentE (s.sm 2)))::(20,.kmap false false (sentE (s.sm 3)))::(21,.kmap false false (sentE (s.sm 4)))::(22,.kmap false false (sentE (s.sm 5)))::(23,.kmap false false (sentE (s.sm 6)))::(24,.kmap false false (sentE (s.sm 7)))::(25,.kmap false false (sentE (s.sm 8)))::(26,.kmap false false (sentE (s.sm 9)))::(27,.kmap false false (sentE (s.sm 10)))::(28,.kmap false false (sentE (s.sm 11)))::(29,.kmap false false (sentE (s.sm 12)))::(30,.kmap false false (sentE (s.sm 13)))::(31,.kmap false false (sentE (s.sm 14)))::(32,.kmap false false (sentE (s.sm 15)))::(8,.row 10 x.rs.length (x.rs.flatMap Rul.cells) 36)::(6,.cells [.opq 0,ii x.n.inp,.opq 1,.opq 8,.opq 3,.opq 4,.opq 5,ii (KN:Int)] 45)::(0,.rwin 8 x.n.N.length (x.n.N.flatMap Prm.vals))::(1,.rwin 4 x.n.S.length (x.n.S.flatMap Syn.vals))::(3,.rwin 1 x.pl.length (ints x.pl))::(4,.rwin 2 l.length (l.flatMap Evt.vals))::(5,.rwin 3 p.length (p.flatMap Prz.vals))::[]) 56 rfl rfl
     ⟨.inl ⟨rfl,hisO 9 (by decide)⟩,.inl ⟨rfl,hisO 10 (by decide)⟩,.inl ⟨rfl,hisO 11 (by decide)⟩,.inl ⟨rfl,hisO 12 (by decide)⟩,.inl ⟨rfl,hisO 13 (by decide)⟩,.inl ⟨rfl,hisO 14 (by decide)⟩,.inl ⟨rfl,hisO 15 (by decide)⟩,.inl ⟨rfl,hisO 16 (by decide)⟩,.inl ⟨rfl,hisO 17 (by decide)⟩,.inl ⟨rfl,hisO 18 (by decide)⟩,.inl ⟨rfl,hisO 19 (by decide)⟩,.inl ⟨rfl,hisO 20 (by decide)⟩,.inl ⟨rfl,hisO 21 (by decide)⟩,.inl ⟨rfl,hisO 22 (by decide)⟩,.inl ⟨rfl,hisO 23 (by decide)⟩,.inl ⟨rfl,hisO 24 (by decide)⟩,.inl ⟨rfl,hisO 25 (by decide)⟩,.inl ⟨rfl,hisO 26 (by decide)⟩,.inl ⟨rfl,hisO 27 (by decide)⟩,.inl ⟨rfl,hisO 28 (by decide)⟩,.inl ⟨rfl,hisO 29 (by decide)⟩,.inl ⟨rfl,hisO 30 (by decide)⟩,.inl ⟨rfl,hisO 31 (by decide)⟩,.inl ⟨rfl,hisO 32 (by decide)⟩,.inl ⟨rfl,hisO 8 (by decide)⟩,.inl ⟨rfl,hisO 6 (by decide)⟩,.inl ⟨rfl,hisO 0 (by decide)⟩,.inl ⟨rfl,hisO 1 (by decide)⟩,.inl ⟨rfl,hisO 3 (by decide)⟩,.inl ⟨rfl,hisO 4 (by decide)⟩,.inl ⟨rfl,hisO 5 (by decide)⟩,trivial⟩ ?_
    refine Run.of_wpK (hc w [] none (fun _ h=>by cases h)) 1000 _ ?_
    conv=>whnf
    rw [show i+1=KN by omega,hm2,show KN-1=i by omega,hs] at ih
    exact Run.trim (T':=[(1,.v (.int .u8 rw8)),(2,.ptr 6 0),(6,.ptr 9 0),(8,ii ((KN:Nat):Int))]) (M':=((9,.cells [ii ((i:Nat):Int),.opq 10,ii x.n.inp,.opq 11,.opq 12,.mp 17,.mp 18,.mp 19,.mp 20,.mp 21,.mp 22,.mp 23,.mp 24,.mp 25,.mp 26,.mp 27,.mp 28,.mp 29,.mp 30,.mp 31,.mp 32,.opq 13,.opq 14,.opq 15,.mp 16] 96)::(10,.row 8 x.n.N.length ((x.n.N.flatMap Prm.vals).map .v) 60)::(11,.row 4 x.n.S.length ((x.n.S.flatMap Syn.vals).map .v) 55)::(12,.row 2 x.n.N.length (s.st.flatMap Ste.cells) 139)::(13,.row 10 x.rs.length ((x.rs.flatMap Rul.vals).map .v) 36)::(14,.row 1 x.pl.length ((ints x.pl).map .v) 3)::(15,.row 4 x.pl.length (s.m.flatMap Mrk.cells) 84)::(16,.kmap true true x.tot)::(17,.kmap false false (sentE (s.sm 0)))::(18,.kmap false false (sentE (s.sm 1)))::(19,.kmap false false (sentE (s.sm 2)))::(20,.kmap false false (sentE (s.sm 3)))::(21,.kmap false false (sentE (s.sm 4)))::(22,.kmap false false (sentE (s.sm 5)))::(23,.kmap false false (sentE (s.sm 6)))::(24,.kmap false false (sentE (s.sm 7)))::(25,.kmap false false (sentE (s.sm 8)))::(26,.kmap false false (sentE (s.sm 9)))::(27,.kmap false false (sentE (s.sm 10)))::(28,.kmap false false (sentE (s.sm 11)))::(29,.kmap false false (sentE (s.sm 12)))::(30,.kmap false false (sentE (s.sm 13)))::(31,.kmap false false (sentE (s.sm 14)))::(32,.kmap false false (sentE (s.sm 15)))::(8,.row 10 x.rs.length (x.rs.flatMap Rul.cells) 36)::(6,.cells [.opq 0,ii x.n.inp,.opq 1,.opq 8,.opq 3,.opq 4,.opq 5,ii (KN:Int)] 45)::(0,.rwin 8 x.n.N.length (x.n.N.flatMap Prm.vals))::(1,.rwin 4 x.n.S.length (x.n.S.flatMap Syn.vals))::(3,.rwin 1 x.pl.length (ints x.pl))::(4,.rwin 2 l.length (l.flatMap Evt.vals))::(5,.rwin 3 p.length (p.flatMap Prz.vals))::[])) 33 ⟨⟨rfl,trivial⟩,⟨rfl,(show 6<33 by decide)⟩,⟨rfl,(show 9<33 by decide)⟩,⟨congrArg some (congrArg ii ((wrap_succ (by omega)).trans (by rw [show i+1=KN by omega]))),trivial⟩,trivial⟩ ⟨⟨rfl,by omega,by simp [SObj.sc,SV.scs,SV.sc]⟩,⟨rfl,by omega,scs_v _ _⟩,⟨rfl,by omega,scs_v _ _⟩,⟨rfl,by omega,scs_st _ _⟩,⟨rfl,by omega,scs_v _ _⟩,⟨rfl,by omega,scs_v _ _⟩,⟨rfl,by omega,scs_marks _ _⟩,⟨rfl,by omega,trivial⟩,⟨rfl,by omega,trivial⟩,⟨rfl,by omega,trivial⟩,⟨rfl,by omega,trivial⟩,⟨rfl,by omega,trivial⟩,⟨rfl,by omega,trivial⟩,⟨rfl,by omega,trivial⟩,⟨rfl,by omega,trivial⟩,⟨rfl,by omega,trivial⟩,⟨rfl,by omega,trivial⟩,⟨rfl,by omega,trivial⟩,⟨rfl,by omega,trivial⟩,⟨rfl,by omega,trivial⟩,⟨rfl,by omega,trivial⟩,⟨rfl,by omega,trivial⟩,⟨rfl,by omega,trivial⟩,⟨rfl,by omega,trivial⟩,⟨rfl,by omega,scs_ruls _ _⟩,⟨rfl,by omega,by simp [SObj.sc,SV.scs,SV.sc]⟩,⟨rfl,by omega,trivial⟩,⟨rfl,by omega,trivial⟩,⟨rfl,by omega,trivial⟩,⟨rfl,by omega,trivial⟩,⟨rfl,by omega,trivial⟩,trivial⟩ (fun p hp=>by cases hp) (ih trivial)
  ·intro hJ
   refine Run.of_wpK (hc w [] none (fun _ h=>by cases h)) 1000 _ ?_
   conv=>whnf
   rw [decide_eq_false (show ¬ ((KN:Nat):Int)<(KN:Int) by omega)]
   conv=>whnf
   refine Run.callE (g:=14) (vs:=[]) (caps:=[]) (.v (.bool true)) (fun ρ w1 hW=>works_run w1) (ent _ _ Try.func14 (by kernel_rfl) rfl) rfl rfl rfl rfl rfl rfl rfl trivial ?_
   refine Run.of_wpK (hc w [] none (fun _ h=>by cases h)) 1000 _ ?_
   conv=>whnf
   exact ⟨fun ρ w' hW _=>⟨rfl,hW.toExt⟩⟩
end Go.Proofs.Ytnnlpdgnlccbjaa
