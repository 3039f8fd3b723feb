/-
  Laws of the small executor, and walks of the functions that the statement reaches (part 13 of several, put together out of smaller texts).
  The conditions stand with each law.
-/
import Derived.SizedLaws
import Derived.Test.YtnnlpdgnlccbjaaMSl
namespace Go.Proofs.Ytnnlpdgnlccbjaa
open Go.Sx
open Go.ChangeShapes Go.WideShapes Go.ChangeAt Go.RowKit Go.Deep Go.Joins
set_option maxRecDepth 100000
section
variable {H:Type} {enc:TypeId × Value→H} {W:World} {base b0:Nat} {spare:Nat→Bool} {held:Bool} {r:Reach} {v:Value} {d:DataW H} {pl:List MemPlace}
/-- How long a slice's datum is. -/
def LenD (d:DataW H) (n:Nat):Prop:=(d = .nil∧n=0) ∨ ∃ es sp,d = .slice es sp∧es.length=n
theorem el_rowsD {α : Type} {t e:TypeId} {k:Nat} (vals : α → List Value) (hvl : ∀ a,(vals a).length=k) (hk:0<k) (ht:Try.prog.underlying t=some (.slice e)) (hc:Try.prog.cellsOf e=k)
  (hel : ∀ {n:Nat} {cs:List Value} {y:DataW H × List MemPlace},DataW.trod enc Try.prog W base spare held n e cs=some y → ∃ p : α,cs=vals p) {n:Nat} {cs:List Value} {y:DataW H × List MemPlace} (h:DataW.trod enc Try.prog W base spare held n t cs=some y) :
  ∃ (v:Value) (l:List α),cs=[v]∧RowsAt W v k l.length (l.flatMap vals)∧LenD y.1 l.length:=by
 obtain ⟨v,l,h1,h2,_⟩:=el_rows vals hvl hk ht hc hel h
 refine ⟨v,l,h1,h2,?_⟩
 obtain ⟨_,p,c,hv,_⟩:=h2
 rcases DataW.trod_slice ht h with ⟨g0,g1⟩ | ⟨a,len,cap,elems,rest,m,_,g0,g1,_,_,_,g2,_⟩
 ·refine .inl ⟨by rw [g1],?_⟩
  rw [h1,hv] at g0
  simp only [List.cons.injEq,Value.slice.injEq,and_true] at g0
  exact g0.2.1
 ·refine .inr ⟨_,_,by rw [g1],?_⟩
  rw [h1,hv] at g0
  simp only [List.cons.injEq,Value.slice.injEq,and_true] at g0
  rw [List.length_map,g2]
  exact g0.2.1.symm
theorem el_case {n:Nat} {cs:List Value} {y:DataW H × List MemPlace} (h:DataW.trod enc Try.prog W base spare held n 45 cs=some y) :
  ∃ (vN vS vR vP vE vZ:Value) (x:Net) (rs:List Rul) (p:List Int) (l:List Evt) (z:List Prz) (K:Int),cs=[vN,.int .i64 x.inp,vS,vR,vP,vE,vZ,.int .i64 K]∧IsNet W vN vS x∧RowsAt W vR 10 rs.length (rs.flatMap Rul.vals)∧RowsAt W vP 1 p.length (ints p)∧RowsAt W vE 2 l.length (l.flatMap Evt.vals)∧RowsAt W vZ 3 z.length (z.flatMap Prz.vals) ∧
   ∃ dn dr ds,y.1 = .agg (dn::dr::ds)∧LenD dr rs.length:=by
 obtain ⟨xs,m,_,hx,hlen,hxl,hg⟩:=DataW.trod_struct Try.underlying45 h
 have hC:Try.prog.cellsOf 45=8:=by kernel_rfl
 rw [hC] at hlen
 match cs,hlen with
 | [c0,c1,c2,c3,c4,c5,c6,c7],_ =>
  match xs,hxl with
  | [y0,y1,y2,y3,y4,y5],_ =>
   have h1:Try.prog.cellsOf 3=1:=by kernel_rfl
   have h2:Try.prog.cellsOf 25=3:=by kernel_rfl
   have h3:Try.prog.cellsOf 26=1:=by kernel_rfl
   have h4:Try.prog.cellsOf 27=1:=by kernel_rfl
   have h5:Try.prog.cellsOf 42=1:=by kernel_rfl
   have h6:Try.prog.cellsOf 43=1:=by kernel_rfl
   have g0:DataW.trod enc Try.prog W base spare held m 25 [c0,c1,c2]=some y0:=by simpa [h2] using hg 0 _ rfl
   have g1:DataW.trod enc Try.prog W base spare held m 26 [c3]=some y1:=by simpa [h3] using hg 1 _ rfl
   have g2:DataW.trod enc Try.prog W base spare held m 27 [c4]=some y2:=by simpa [h4] using hg 2 _ rfl
   have g3:DataW.trod enc Try.prog W base spare held m 42 [c5]=some y3:=by simpa [h5] using hg 3 _ rfl
   have g4:DataW.trod enc Try.prog W base spare held m 43 [c6]=some y4:=by simpa [h6] using hg 4 _ rfl
   have g5:DataW.trod enc Try.prog W base spare held m 3 [c7]=some y5:=by simpa [h1] using hg 5 _ rfl
   obtain ⟨vN,vS,x,e0,r0⟩:=el_net g0
   obtain ⟨v1,l1,e1,r1,d1⟩:=el_rowsD Rul.vals Rul.vlen (by decide) Try.underlying26 (by kernel_rfl) el_rul g1
   obtain ⟨v2,l2,e2,r2,_⟩:=el_introw g2
   obtain ⟨v3,l3,e3,r3,_⟩:=el_rows Evt.vals Evt.vlen (by decide) Try.underlying42 (by kernel_rfl) el_evt g3
   obtain ⟨v4,l4,e4,r4,_⟩:=el_rows Prz.vals Prz.vlen (by decide) Try.underlying43 (by kernel_rfl) el_prz g4
   obtain ⟨K,e5⟩:=el_int g5
   simp only [List.cons.injEq,and_true] at e0 e1 e2 e3 e4 e5
   obtain ⟨rfl,rfl,rfl⟩:=e0
   subst e1 e2 e3 e4 e5
   exact ⟨_,_,_,_,_,_,x,l1,l2,l3,l4,K,rfl,r0,r1,r2,r3,r4,y0.1,y1.1,[y2.1,y3.1,y4.1,y5.1],by rw [hx]; rfl,d1⟩
theorem open_case (hv:Value.okWide Try.prog W r b0 45 v) (h:DataW.Trod enc Try.prog W base spare held 45 v d pl) (hw : ∀ n∈DataW.weights Try.prog 45 d,n≤reachBytes) :
  ∃ (vN vS vR vP vE vZ:Value) (x:Net) (rs:List Rul) (p:List Int) (l:List Evt) (z:List Prz) (K:Int),v=caseV vN vS vR vP vE vZ x K∧IsNet W vN vS x∧RowsAt W vR 10 rs.length (rs.flatMap Rul.vals)∧RowsAt W vP 1 p.length (ints p)∧RowsAt W vE 2 l.length (l.flatMap Evt.vals)∧RowsAt W vZ 3 z.length (z.flatMap Prz.vals) ∧
   rs.length*80≤140737488355328:=by
 obtain ⟨cs,rfl,hsz⟩:=okWide_struct Try.underlying45 hv
 obtain ⟨q⟩:=cs
 obtain ⟨fuel,hf⟩:=h
 obtain ⟨vN,vS,vR,vP,vE,vZ,x,rs,p,l,z,K,hp,h1,h2,h3,h4,h5,dn,dr,ds,hd,hl⟩:=el_case hf
 simp [Value.cells] at hp
 subst hp
 refine ⟨vN,vS,vR,vP,vE,vZ,x,rs,p,l,z,K,rfl,h1,h2,h3,h4,h5,?_⟩
 rcases hl with ⟨_,h0⟩ | ⟨es,sp,he,hl⟩
 ·rw [h0]; decide
 ·have hd:d = .agg (dn::dr::ds):=hd
  have hb:Try.prog.bytesOf 36=80:=by kernel_rfl
  have hm:(es.length+sp.length)*Try.prog.bytesOf 36∈DataW.weights Try.prog 45 d:=by
   rw [hd,he]
   simp only [DataW.weights,Try.underlying45,List.map,DataW.weightsEach,Try.underlying26,List.mem_append,List.mem_cons]
   exact .inr (.inl (.inl trivial))
  have:=hw _ hm
  rw [hb,hl] at this
  unfold reachBytes at this
  omega
end
end Go.Proofs.Ytnnlpdgnlccbjaa
namespace Go.Proofs.Ytnnlpdgnlccbjaa
open Go.Sx
set_option maxRecDepth 100000
set_option maxHeartbeats 2000000
theorem pw_of_adj {α : Type} {R : α → α → Prop} (tr : ∀ a b c,R a b→R b c→R a c) : ∀ (l:List α),(∀ i (h:i+1<l.length),R (l[i]'(by omega)) l[i+1])→l.Pairwise R
 | [],_ => .nil
 | [a],_=>List.pairwise_singleton _ _
 | a::b::l,h=>by
  have ih:=pw_of_adj tr (b::l) (fun i hi=>h (i+1) (by simpa using hi))
  have hab:R a b:=h 0 (by simp)
  refine .cons (fun x hx => ?_) ih
  rcases List.mem_cons.1 hx with rfl | hx
  ·exact hab
  ·exact tr _ _ _ hab ((List.pairwise_cons.1 ih).1 x hx)
structure EvsOK (inp:Int) (l:List Evt):Prop where
 t0 : ∀ e∈l,0≤e.tick
 id : ∀ e∈l,0≤e.id∧e.id≤inp-1
 pw:l.Pairwise (fun a b=>a.tick<b.tick∨a.tick=b.tick∧a.id<b.id)
theorem evs_ok {inp:Int} {l:List Evt} (h:evsChk inp 10000 l=0) (h0:0≤inp∧inp≤256):EvsOK inp l:=by
 unfold evsChk at h
 split at h
 ·cases h
 have hz : ∀ i,i<l.length→evAt inp 10000 l i=0:=fun i hi=>by
  have:=firstE_zero h i (by simpa using hi)
  simpa only [List.getElem_range] using this
 have e2:W (inp-1)=inp-1:=W_id (by omega) (by omega)
 have hi1 : ∀ i (hi:i<l.length),0≤l[i].tick∧0≤l[i].id∧l[i].id≤inp-1:=fun i hi=>by
  have:=hz i hi
  unfold evAt at this
  have e:l.getD i evt0=l[i]:=by simp [List.getD_eq_getElem?_getD,hi]
  rw [e,e2] at this
  split at this
  ·cases this
  rename_i hw
  simp only [Bool.not_eq_false,Bool.and_eq_true,wi_iff] at hw
  omega
 refine ⟨fun e he => ?_,fun e he => ?_,pw_of_adj (fun a b c h1 h2=>by omega) l fun i hi => ?_⟩
 ·obtain ⟨i,hi,rfl⟩:=List.getElem_of_mem he; exact (hi1 i hi).1
 ·obtain ⟨i,hi,rfl⟩:=List.getElem_of_mem he; exact (hi1 i hi).2
 ·have:=hz (i+1) hi
  unfold evAt at this
  have ea:l.getD i evt0=l[i]:=by simp [List.getD_eq_getElem?_getD,show i<l.length by omega]
  have eb:l.getD (i+1) evt0=l[i+1]:=by simp [List.getD_eq_getElem?_getD,hi]
  rw [Nat.add_sub_cancel,ea,eb] at this
  split at this
  ·cases this
  split at this
  ·cases this
  ·rename_i h3
   omega
theorem EvsOK.ins {inp:Int} {l:List Evt} (h:EvsOK inp l) (h0:0≤inp∧inp≤256) (t:Int):insChk inp (atIn l t)=0:=by
 have e2:W (inp-1)=inp-1:=W_id (by omega) (by omega)
 have hm : ∀ a∈atIn l t,0≤a∧a≤inp-1:=fun a ha=>by
  rw [atIn_eq] at ha
  obtain ⟨e,he,rfl⟩:=List.mem_map.1 ha
  exact h.id e (List.mem_filter.1 he).1
 have hp:(atIn l t).Pairwise (· < ·):=by
  rw [atIn_eq,List.pairwise_map]
  have h1:=h.pw.filter (fun e=>e.tick==t)
  refine List.Pairwise.imp_of_mem (fun {a b} ha hb hab => ?_) h1
  have ta:a.tick=t:=by simpa using (List.mem_filter.1 ha).2
  have tb:b.tick=t:=by simpa using (List.mem_filter.1 hb).2
  omega
 unfold insChk
 refine firstN_all fun j hj => ?_
 unfold inAt
 have e:(atIn l t).getD j 0=(atIn l t)[j]:=by simp [List.getD_eq_getElem?_getD,hj]
 have hj1:=hm _ (List.getElem_mem hj)
 rw [e,e2]
 rw [if_neg (by
  rw [Bool.not_eq_false,wi_iff]; exact hj1)]
 by_cases h1:j=0
 ·rw [if_neg (by omega)]
 ·have e3:(atIn l t).getD (j-1) 0=(atIn l t)[j-1]:=by simp [List.getD_eq_getElem?_getD,show j-1<(atIn l t).length by omega]
  rw [e3]
  have:=List.pairwise_iff_getElem.1 hp (j-1) j (by omega) hj (by omega)
  rw [if_neg (by omega)]
theorem prep_evs {inp:Int} {l:List Evt} {K:Int} (h:prepChk ⟨[prm1],inp,[]⟩ l K 10000=0):evsChk inp 10000 l=0:=by
 unfold prepChk at h
 split at h
 ·rename_i h1; exact absurd h h1
 split at h
 ·cases h
 exact h
theorem fdiv_pow {a:Int} (h0:0≤a) (k:Nat):0≤a.fdiv (2 ^ k)∧a.fdiv (2 ^ k)≤a:=by
 have hp:(0:Int)<2 ^ k:=by exact_mod_cast Nat.pos_of_ne_zero (by simp)
 rw [Int.fdiv_eq_ediv_of_nonneg a (by omega)]
 exact ⟨Int.ediv_nonneg h0 (by omega),Int.ediv_le_self _ h0⟩
/-- The two parts of the change of step 3. -/
theorem chg_parts {r:Rul} (hr:GoodR r) {m:Mrk} (h0:0≤m.x∧m.x≤65535) (h1:0≤m.y∧m.y≤65535) (sp ar:Bool) :
  ∃ a b:Int,chgM r m sp ar=a-b∧0≤a∧a≤16711425∧0≤b∧b≤16711425∧(r.up=0→a=0)∧(r.down=0→b=0):=by
 have hu:=hr.up
 have hd:=hr.down
 have bu:0≤r.up*m.x∧r.up*m.x≤16711425:=⟨Int.mul_nonneg hu.1 h0.1,Int.le_trans (Int.mul_le_mul hu.2 h0.2 h0.1 (by decide)) (by decide)⟩
 have bd:0≤r.down*m.y∧r.down*m.y≤16711425:=⟨Int.mul_nonneg hd.1 h1.1,Int.le_trans (Int.mul_le_mul hd.2 h1.2 h1.1 (by decide)) (by decide)⟩
 have e1:W (r.up*m.x)=r.up*m.x:=W_id (by omega) (by omega)
 have e2:W (r.down*m.y)=r.down*m.y:=W_id (by omega) (by omega)
 have f1:=fdiv_pow bu.1 (min r.shift.toNat 64)
 have f2:=fdiv_pow bd.1 (min r.shift.toNat 64)
 have z1:r.up=0→(r.up*m.x).fdiv (2 ^ min r.shift.toNat 64)=0:=fun h=>by rw [h,Int.zero_mul,Int.zero_fdiv]
 have z2:r.down=0→(r.down*m.y).fdiv (2 ^ min r.shift.toNat 64)=0:=fun h=>by rw [h,Int.zero_mul,Int.zero_fdiv]
 unfold chgM
 simp only [e1,e2]
 generalize (r.up*m.x).fdiv (2 ^ min r.shift.toNat 64)=A at f1 z1
 generalize (r.down*m.y).fdiv (2 ^ min r.shift.toNat 64)=B at f2 z2
 have g1:W (0+A)=A:=by rw [Int.zero_add]; exact W_id (by omega) (by omega)
 have g2:W (A-B)=A-B:=W_id (by omega) (by omega)
 have g3:W (0-B)=0-B:=W_id (by omega) (by omega)
 cases sp <;> cases ar <;> simp only [if_true,if_false,Bool.false_eq_true,g1,g2,g3]
 ·exact ⟨0,0,rfl,by omega,by omega,by omega,by omega,fun _=>rfl,fun _=>rfl⟩
 ·exact ⟨0,B,rfl,by omega,by omega,f2.1,by omega,fun _=>rfl,z2⟩
 ·exact ⟨A,0,by omega,f1.1,by omega,by omega,by omega,z1,fun _=>rfl⟩
 ·exact ⟨A,B,rfl,f1.1,by omega,f2.1,by omega,z1,z2⟩
theorem fade_bounds {r:Rul} (hr:GoodR r) {m:Mrk} (hm:MrkOK r m):(0≤(fadeM r m).x∧(fadeM r m).x≤65535)∧(0≤(fadeM r m).y∧(fadeM r m).y≤65535):=by
 have tr : ∀ a k:Int,0≤a→a≤65535→0≤k→k≤255→0≤W ((W (a*k)).tdiv 256)∧W ((W (a*k)).tdiv 256)≤65535:=by
  intro a k h1 h2 h3 h4
  have h5:a*k≤65535*255:=Int.mul_le_mul h2 h4 h3 (by decide)
  have h6:0≤a*k:=Int.mul_nonneg h1 h3
  have e1:W (a*k)=a*k:=W_id (by omega) (by omega)
  rw [e1]
  have h7:(a*k).tdiv 256=a*k / 256:=Int.tdiv_eq_ediv_of_nonneg h6
  rw [h7,W_id (by omega) (by omega)]
  omega
 exact ⟨tr m.x r.keep hm.x0 hm.x1 hr.keep.1 hr.keep.2,tr m.y r.keep hm.y0 hm.y1 hr.keep.1 hr.keep.2⟩
/-- The weight behind step 3. -/
theorem finM_w (r:Rul) (sp ar:Bool) (m:Mrk):(finM r sp ar m).w=max r.lo (min r.hi m.w):=by
 unfold finM
 cases sp <;> cases ar <;> rfl
theorem pMark_w1 {r:Rul} (h1:r.kind=1) (sp ar:Bool) (rw0:Int) (m:Mrk):(pMark r sp ar rw0 m).w=max r.lo (min r.hi (W (m.w+chgM r (fadeM r m) sp ar))):=by
 rw [pMark_eq (r:=r) (spike:=sp) (arrived:=ar) (rw0:=rw0) (m0:=m) rfl rfl (if_pos h1),finM_w]; rfl
theorem pMark_up {r:Rul} (hr:GoodR r) (h1:r.kind=1) (hd:r.down=0) {m:Mrk} (hm:MrkOK r m) (sp ar:Bool) (rw0:Int):m.w≤(pMark r sp ar rw0 m).w:=by
 obtain ⟨f1,f2⟩:=fade_bounds hr hm
 obtain ⟨a,b,h,ha0,ha1,hb0,hb1,_,hb⟩:=chg_parts hr f1 f2 sp ar
 have:=hm.w0
 have:=hm.w1
 have hb2:=hr.bounds
 rw [pMark_w1 h1,h,hb hd]
 have e:W (m.w+(a-0))=m.w+a:=by rw [Int.sub_zero]; exact W_id (by omega) (by omega)
 rw [e]
 omega
theorem pMark_dn {r:Rul} (hr:GoodR r) (h1:r.kind=1) (hu:r.up=0) {m:Mrk} (hm:MrkOK r m) (sp ar:Bool) (rw0:Int):(pMark r sp ar rw0 m).w≤m.w:=by
 obtain ⟨f1,f2⟩:=fade_bounds hr hm
 obtain ⟨a,b,h,ha0,ha1,hb0,hb1,ha,_⟩:=chg_parts hr f1 f2 sp ar
 have:=hm.w0
 have:=hm.w1
 have hb2:=hr.bounds
 rw [pMark_w1 h1,h,ha hu]
 have e:W (m.w+(0-b))=m.w-b:=by rw [show m.w+(0-b)=m.w-b by omega]; exact W_id (by omega) (by omega)
 rw [e]
 omega
/-- Without sums to be kept, step 5 does nothing. -/
theorem lR_nosum {x:Lnt} {s:Lst} (hx:NetOK x) (h:LInv x s) (hs : ∀ r∈x.rs,r.sum=false) (rw0:List Int) (i:Nat):(lR x s rw0).getD i mrk0=(lP x s rw0).getD i mrk0:=by
 obtain ⟨_,_,hR⟩:=lR_all hx h rw0
 refine hR.same i (.inr ?_)
 unfold sumOn
 rw [List.getD_eq_getElem?_getD]
 cases hq:x.rs[(x.pl.getD i (-1)).toNat]? with
 | none=>rfl
 | some r=>exact hs r (List.mem_of_getElem? hq)
theorem rul_mem {x:Lnt} (hx:NetOK x) {i:Nat} (hi:i∈plIdx x.pl):x.rul i∈x.rs:=by
 obtain ⟨h1,h2⟩:=plIdx_iff.1 hi
 have hg:x.pl.getD i (-1)=x.pl[i]:=by simp [List.getD_eq_getElem?_getD,h1]
 have h3:=hx.p1 i h1
 rw [hg] at h2
 have hk:x.pl[i].toNat<x.rs.length:=by omega
 have:x.rul i=x.rs[x.pl[i].toNat]:=by unfold Lnt.rul; rw [hg]; simp [List.getD_eq_getElem?_getD,hk]
 rw [this]; exact List.getElem_mem hk
theorem sign_up {x:Lnt} {s:Lst} (hx:NetOK x) (h:LInv x s) (hs : ∀ r∈x.rs,r.sum=false) (hk : ∀ r∈x.rs,r.kind=1) (hd : ∀ r∈x.rs,r.down=0) (ins rw0:List Int) (i:Nat):wAt s.m i≤wAt (lN x s ins rw0).m i:=by
 unfold wAt
 show _≤((lR x s rw0).getD i mrk0).w
 rw [lR_nosum hx h hs,lP_get hx h]
 split
 ·rename_i hi
  have hr:=rul_mem hx hi
  exact pMark_up (hx.good hi) (hk _ hr) (hd _ hr) (h.mok i hi) _ _ _
 ·exact Int.le_refl _
theorem sign_dn {x:Lnt} {s:Lst} (hx:NetOK x) (h:LInv x s) (hs : ∀ r∈x.rs,r.sum=false) (hk : ∀ r∈x.rs,r.kind=1) (hu : ∀ r∈x.rs,r.up=0) (ins rw0:List Int) (i:Nat):wAt (lN x s ins rw0).m i≤wAt s.m i:=by
 unfold wAt
 show ((lR x s rw0).getD i mrk0).w≤_
 rw [lR_nosum hx h hs,lP_get hx h]
 split
 ·rename_i hi
  have hr:=rul_mem hx hi
  exact pMark_dn (hx.good hi) (hk _ hr) (hu _ hr) (h.mok i hi) _ _ _
 ·exact Int.le_refl _
/-- The weights now. -/
theorem now_get {x:Lnt} {s:Lst} (h:LInv x s) {i:Nat} (hi:i<x.n.S.length):(nowL x.n.S s.m).getD i syn0={ x.n.S.getD i syn0 with w:=wAt s.m i }:=by
 unfold nowL
 rw [nowY_get,if_pos ⟨by rw [h.lm]; exact hi,hi⟩]; rfl
theorem now_len (x:Lnt) (s:Lst):(nowL x.n.S s.m).length=x.n.S.length:=nowY_len ..
end Go.Proofs.Ytnnlpdgnlccbjaa
namespace Go.Sx
/-- 'append([]T{}, s...)'. -/
theorem Run.appendC {c:Cx} (hc:c.ok) {T:List (Nat × SV)} {M:List (Nat × SObj)} {n:Nat} {D:List Deferred} {ops:Array Oper} {i:Nat} {r:List Nat} {k:List Item} {R:Ending→World→Prop} {o:Oper} {x y:Operand} {t:TypeId}
  (ho:get ops.toList i=some o) (hop:o.op = .call { callee := .builtin .append,args := #[x,y],argTypes := #[t,t] }) (hw:wantS ops.toList (look T) o=some true) (hd:okD c.fn.ntmps o.dst=true)
  {j e:Nat} {te:TypeId} (hx:ev (look T) x=some (.slc j 0 0 0)) (hj:look M j=some (.cells [] te))
  {q len:Nat} {vs:List Value} (hy:ev (look T) y=some (.opq q)) (hq : ∀ ρ w,WI c.w0 c.L ρ (look M) (· < n) w→RowsAt w ((SV.opq q).conc ρ) e len vs) (hone' : ∀ u∈vs,u.oneCell'=true)
  {ti tie:TI} {bytes:Nat} (hti:look c.tab t=some ti) (hsh:ti.sh = .slc te e bytes) (hte:look c.tab te=some tie) (hz:tie.zero.length=e) (he:0<e)
  (hfit:len*bytes≤140737488355328∧len<9223372036854775808) (M':List (Nat × SObj)) (hM':AllP (fun p=>look M p.1=some p.2∧p.1≠j) M')
  (h:Run c ⟨putS T o.dst (.opq n),(n,.row e len (vs.map .v) te)::M',n+1,D,.inRegion ops r::k⟩ R):Run c ⟨T,M,n,D,.inRegion ops (i::r)::k⟩ R:=by
 refine ⟨fun ρ a w hi => ?_⟩
 rw [get_eq,Array.getElem?_toList] at ho
 refine TW.op ho (wantS_ok hi.tm hw) ?_
 obtain ⟨h1,_⟩:=ev_ok hi.tm hx
 obtain ⟨h2,_⟩:=ev_ok hi.tm hy
 have hti:=Tab.ok_look hc.tab hti
 have hte:=Tab.ok_look hc.tab hte
 obtain ⟨d,hd1,hd2⟩:=hti.desc
 obtain ⟨inf,rfl,g2,g3,g4⟩:=sh_desc.2.2.2.2.1 te e bytes (hd2.trans hsh)
 obtain ⟨inf',z,i1,_,i3,i4⟩:=hte.infos
 rw [g2] at i1
 obtain rfl:=Option.some.inj i1
 have hzs:z.cells.size=e:=by rw [← hz,← i4]; simp
 obtain ⟨hSj,hscj,h0,hcb⟩:=hi.wi.mem j _ hj
 have hsub : ∀ kk oo,look M' kk=some oo→look M kk=some oo:=fun kk oo hk=>(hM'.mem _ (look_mem hk)).1
 have hown:w.ownsRow 0 te e (.slice (some ⟨ρ.s j,0,none⟩) 0 0) 0 [] :=
  ⟨by simp,.inr ⟨ρ.s j,0,#[],rfl,Nat.zero_le _,hcb,Nat.le_refl _,Nat.zero_le _,by simp,by simp⟩⟩
 have hx1:a.eval x = .slice (some ⟨ρ.s j,0,none⟩) 0 0:=by rw [h1]; simp only [SV.conc,h0,Nat.add_zero]
 obtain ⟨hvl,p,cap,hv,hcap,hp⟩:=hq ρ w hi.wi
 rw [hv] at h2
 have fin : ∀ v' w' row,(execOp a.eval o).run c.P w = .ok (.value v') w'→w'.ownsRow 0 te e v' len vs→w.grownBy w' row→(row=none∨row=some (ρ.s j))→(∀ g,v'.ownBlock=some g→row=some g∨w.heap.size≤g) →
   Oc c.P a o w fun v w'=>TW c.P c.f c.rr (a.put o.dst v) (.inRegion ops r::k) w' R:=by
  intro v' w' row hrun r2 r3 r4 r5
  rw [← concs_v ρ vs] at r2
  obtain ⟨hW',hag⟩:=hi.wi.rowTo hsub (i:=n) (Nat.lt_irrefl n) (xs:=vs.map .v) (t:=te) (e:=e) (n:=len) r3 (fun b hb=>by
   rcases r4 with r4 | r4
   ·rw [r4] at hb; cases hb
   ·rw [r4] at hb
    obtain rfl:=Option.some.inj hb
    exact ⟨fun kk oo hk ck=>hi.wi.dist kk j oo _ (hsub kk oo hk) hj (hM'.mem _ (look_mem hk)).2 ck trivial,hi.wi.new j _ hj trivial⟩) r5 r2 (scs_v _ vs)
  refine Oc.value hrun ?_
  have hW2:WI c.w0 c.L (ρ.bindV n v') (look ((n,.row e len (vs.map .v) te)::M')) (· < n+1) w':=by
   rw [look_upd]; exact hW'.mono fun q hq=>by have hq:q<n∨q=n:=hq; omega
  have hinv:=hi.put (ρ':=ρ.bindV n v') hd hag (Nat.le_succ n) (v := .opq n) (Nat.lt_succ_self n) hW2 (.inRegion ops r::k)
  rw [conc_bindV r2] at hinv
  exact h.go _ _ w' hinv
 cases p with
 | none =>
  have hl0:len=0:=by
   rcases hp with hp | ⟨_,_,hp,_⟩
   ·exact hp
   ·cases hp
  subst hl0
  obtain rfl:vs=[]:=List.length_eq_zero_iff.1 (by simpa using hvl)
  have hrun:(execOp a.eval o).run c.P w = .ok (.value (.slice (some ⟨ρ.s j,0,none⟩) 0 0)) w:=by
   simp [execOp,hop,resolve,invoke,builtin,hx1,h2,run_appendNil w hd1 g2 _ 0 0 cap (Nat.le_refl 0)]
  exact fin _ w (some (ρ.s j)) hrun hown ⟨rfl,rfl,rfl,Nat.le_refl _,fun _ _ _=>rfl⟩ (.inr rfl) (fun g hg => .inl hg)
 | some ad =>
  have hcell : ∀ jj u,vs[jj]? = some u→w.cell? (ad.add jj)=some u:=fun jj u hu=>by
   rcases hp with hp | ⟨blk,off,hp,_,hh⟩
   ·subst hp
    obtain rfl:vs=[]:=List.length_eq_zero_iff.1 (by simpa using hvl)
    cases hu
   ·obtain rfl:=Option.some.inj hp
    rw [addr_add]; exact hh jj u hu
  obtain ⟨v',w',row,r1,r2,r3,r4,r5⟩:=run_append_two (P:=c.P) w t o.type te inf z e hd1 g2 i3 g3 hzs he _ 0 _ hown ad len cap vs hvl hcell hone' (by simp only [maxLen]; omega) (by rw [g4,Nat.zero_add]; exact hfit.1)
  rw [Nat.zero_add,List.nil_append] at r2
  have hrun:(execOp a.eval o).run c.P w = .ok (.value v') w':=by
   simp [execOp,hop,resolve,invoke,builtin,hx1,h2,r1]
  exact fin v' w' row hrun r2 r3 (r4.imp id fun h=>h) r5
end Go.Sx
namespace Go.Proofs.Ytnnlpdgnlccbjaa
open Go.Sx
set_option maxRecDepth 100000
set_option maxHeartbeats 8000000
theorem ruls_v (l:List Rul):l.flatMap Rul.cells=(l.flatMap Rul.vals).map .v:=by
 induction l with
 | nil=>rfl
 | cons a l ih=>rw [List.flatMap_cons,List.flatMap_cons,List.map_append,ih]; rfl
theorem Rul.clen (r:Rul):r.cells.length=10:=rfl
theorem scs_ruls (S:Nat→Prop) (l:List Rul):SV.scs S (l.flatMap Rul.cells):=by rw [ruls_v]; exact scs_v _ _
theorem rwOf_nil (R:Nat):rwOf R []=List.replicate R 0:=rfl
/-- A tick without rewards. -/
theorem Step_ok0 (x:Lnt) (s:Lst) (ins:List Int) (hx:NetOK x) (h:LInv x s) (he:stepChk x s ins []=0) (hin:ins.length<4611686018427387904) :
  BSpec Try.prog 27 [.ptr 0 0,.opq 24,.v (.slice none 0 0)] (lM x (lC x s) s++[(24,.rwin 1 ins.length (ints ins))]) 26 [0,3,6] (.tup [.opq 27,ii 0])
   [(26,.kmap false true (sentE ((lN x s ins (List.replicate x.rs.length 0)).sm (slotN s.tick)))),(27,.row 1 (lOut x s).length ((lOut x s).map fun x=>ii x) 3),(0,.cells (lcells (ii (W (s.tick+1))) x.n.inp (fun j => .mp (if j=slotN s.tick then 26 else 8+j)) (.mp 7)) 96),(3,.row 2 x.n.N.length ((lN x s ins (List.replicate x.rs.length 0)).st.flatMap Ste.cells) 139),(6,.row 4 x.pl.length ((lN x s ins (List.replicate x.rs.length 0)).m.flatMap Mrk.cells) 84)] 28:=by
 have h0:=Step_ok x s ins [] hx h he hin (by decide)
 rw [rwOf_nil] at h0
 have hne : ∀ i,i<25→i≠25:=fun i hi=>by omega
 refine BSpec.nilArg 25 1 h0 (by decide) (fun ρ hρ=>by simp only [SV.concs,SV.conc,hρ]) ⟨(show 0≠25 by decide),(show 24≠25 by decide),trivial,trivial⟩ ?_ ?_ ⟨(show 27≠25 by decide),trivial,trivial⟩ ?_
 ·refine ⟨⟨(show 0≠25 by decide),by simp [lC,lcells,SObj.sc,SV.scs,SV.sc]⟩,⟨(show 1≠25 by decide),trivial⟩,⟨(show 2≠25 by decide),trivial⟩,⟨(show 3≠25 by decide),scs_st _ _⟩,⟨(show 4≠25 by decide),trivial⟩,⟨(show 5≠25 by decide),trivial⟩,⟨(show 6≠25 by decide),scs_marks _ _⟩,⟨(show 7≠25 by decide),trivial⟩,⟨(show 8≠25 by decide),trivial⟩,⟨(show 9≠25 by decide),trivial⟩,⟨(show 10≠25 by decide),trivial⟩,⟨(show 11≠25 by decide),trivial⟩,⟨(show 12≠25 by decide),trivial⟩,⟨(show 13≠25 by decide),trivial⟩,⟨(show 14≠25 by decide),trivial⟩,⟨(show 15≠25 by decide),trivial⟩,⟨(show 16≠25 by decide),trivial⟩,⟨(show 17≠25 by decide),trivial⟩,⟨(show 18≠25 by decide),trivial⟩,⟨(show 19≠25 by decide),trivial⟩,⟨(show 20≠25 by decide),trivial⟩,⟨(show 21≠25 by decide),trivial⟩,⟨(show 22≠25 by decide),trivial⟩,⟨(show 23≠25 by decide),trivial⟩,⟨(show 24≠25 by decide),trivial⟩,trivial⟩
 ·exact ⟨rfl,rfl,rfl,rfl,rfl,rfl,rfl,rfl,rfl,rfl,rfl,rfl,rfl,rfl,rfl,rfl,rfl,rfl,rfl,rfl,rfl,rfl,rfl,rfl,rfl,rfl,trivial⟩
 ·exact ⟨⟨(show 26≠25 by decide),trivial⟩,⟨(show 27≠25 by decide),scs_i _ _⟩,⟨(show 0≠25 by decide),lcells_sc (S:=(· ≠ 25)) (fun i hi=>by show i≠25; omega) _ _ _ _ (by show 26≠25; decide)⟩,⟨(show 3≠25 by decide),scs_st _ _⟩,⟨(show 6≠25 by decide),scs_marks _ _⟩,trivial⟩
/-- The inputs and rewards of a tick of a case without prizes. -/
theorem at_spec0 (inp K t:Int) (rs:List Rul) (l:List Evt) (hr:rs.length≤1000) (hl:l.length≤100000) :
  BSpec Try.prog 26 [.agg [.opq 0,ii inp,.opq 1,.opq 2,.opq 3,.opq 4,.v (.slice none 0 0),ii K],ii t] [(2,.rwin 10 rs.length (rs.flatMap Rul.vals)),(4,.rwin 2 l.length (l.flatMap Evt.vals))] 6 [] (.tup [.opq 6,.opq 7]) [(6,.row 1 (atIn l t).length ((atIn l t).map fun x=>ii x) 3),(7,.row 1 rs.length ((List.replicate rs.length 0).map fun x=>ii x) 3)] 8:=by
 refine BSpec.nilArg 5 3 (at_spec inp K t rs l [] hr hl (by decide)) (by decide) (fun ρ hρ=>by simp only [SV.concs,SV.conc,hρ]) (by simp [SV.scs,SV.sc]) ⟨⟨(show 2≠5 by decide),trivial⟩,⟨(show 4≠5 by decide),trivial⟩,trivial⟩ ⟨rfl,rfl,rfl,trivial⟩ (by simp [SV.sc,SV.scs])
  ⟨⟨(show 6≠5 by decide),scs_i _ _⟩,⟨(show 7≠5 by decide),scs_i _ _⟩,trivial⟩
theorem atIn_len (l:List Evt) (t:Int):(atIn l t).length≤l.length:=by
 rw [atIn_eq,List.length_map]; exact List.length_filter_le ..
def RowLike (o:SObj) (e n:Nat) (vs:List Value):Prop:=o = .rwin e n vs ∨ ∃ t,o = .row e n (vs.map .v) t
theorem RowLike.sc {o:SObj} {e n:Nat} {vs:List Value} (h:RowLike o e n vs) (S:Nat→Prop):o.sc S:=by
 rcases h with rfl | ⟨t,rfl⟩
 ·trivial
 ·exact scs_v _ _
theorem RowLike.ren {o:SObj} {e n:Nat} {vs:List Value} (h:RowLike o e n vs) (r:Nat→Nat):o.ren r=o:=oren_fix (S:=fun _=>False) (fun _ hi=>hi.elim) (h.sc _)
section
variable {tab:Tab} {pf:PF} {T:Tm} {M:Mem} {n:Nat} {t:TypeId} {x y:Operand} {ti:TI} {j e m:Nat} {o:SObj} {vs:List Value}
theorem opF_lenA {args:Array Operand} {ts:Array TypeId} {te:TypeId} {sz b:Nat} (h:RowLike o e m vs) (ha:args.toList=[x]) (hts:ts.toList.head? = some t) (ht:Sx.look tab t=some ti) (hs:ti.sh = .slc te sz b) (hx:ev T x=some (.opq j)) (hM:M j=some o) :
  opF tab pf T M n (.call { callee := .builtin .len,args:=args,argTypes:=ts })=some (.val none (ii (m:Int))):=by
 have hts2 : ∃ r,ts.toList=t::r:=by
  cases hq:ts.toList with
  | nil=>rw [hq] at hts; cases hts
  | cons a r=>rw [hq] at hts; exact ⟨r,by rw [Option.some.inj hts]⟩
 obtain ⟨r,hts2⟩:=hts2
 unfold opF
 simp only [ha,hts2]
 unfold opLen
 rcases h with rfl | ⟨t2,rfl⟩ <;> simp only [ht,hs,hx,hM]
theorem opF_indexA {te:TypeId} {sz b:Nat} {i:Int} {k:IntKind} (h:RowLike o e m vs) (ht:Sx.look tab t=some ti) (hs:ti.sh = .slc te sz b) (hx:ev T x=some (.opq j)) (hy:ev T y=some (.v (.int k i))) (hM:M j=some o) (he:e=sz) :
  opF tab pf T M n (.indexAddr t x y)=some (.val (some (0≤i∧i<(m:Int))) (.ptr j (idx i sz))):=by
 subst he
 unfold opF
 simp only
 unfold opIndexAddr
 have hb:Nat.beq e e=true:=Nat.beq_refl e
 rcases h with rfl | ⟨t2,rfl⟩ <;> simp only [ht,hs,hx,hy,hM,hb]
theorem opF_loadA {α : Type} {f : α → List Value} {l:List α} {c:Value} {off:Nat} (h:RowLike o e m (l.flatMap f)) (i k:Nat) (ht:Sx.look tab t=some ti) (hx:ev T x=some (.ptr j off)) (hM:M j=some o) (hag:ti.sh.isAgg=false) (hf : ∀ a,(f a).length=e) (hoff:off=i*e+k) (hi:i<l.length) (hk:k<e)
  (hc:get (f l[i]) k=some c):opF tab pf T M n (.load t x)=some (.val none (.v c)):=by
 rcases h with rfl | ⟨t2,rfl⟩
 ·exact opF_loadWf (f:=f) i k ht hx hM hag hf hoff hi hk hc
 ·have hfm:(l.flatMap f).map SV.v=l.flatMap fun a=>(f a).map SV.v:=by
   rw [List.map_flatMap]
  rw [hfm] at hM
  exact opF_loadRf (f:=fun a=>(f a).map SV.v) i k ht hx hM hag (fun a=>by rw [List.length_map]; exact hf a) hoff hi hk (by rw [get_eq] at hc ⊢; rw [List.getElem?_map,hc]; rfl)
end
theorem now_m0 (x:Lnt):nowL x.n.S x.m0=x.n.S:=by
 apply List.ext_getElem (nowY_len ..)
 intro i h1 h2
 have h3:=nowY_get x.n.S x.m0 x.m0.length i
 have e1:(nowY x.n.S x.m0 x.m0.length).getD i syn0=(nowL x.n.S x.m0)[i]:=by
  rw [List.getD_eq_getElem?_getD,List.getElem?_eq_getElem h1]; rfl
 have e2:x.n.S.getD i syn0=x.n.S[i]:=by rw [List.getD_eq_getElem?_getD,List.getElem?_eq_getElem h2]; rfl
 rw [e1,if_pos ⟨by simpa [Lnt.m0] using h2,h2⟩,m0_get,e2] at h3
 exact h3
def sgnR (up:Bool) (r:Rul):Rul:=if up=true then { r with kind:=1,fade:=0,sum:=false,down:=0 } else { r with kind:=1,fade:=0,sum:=false,up:=0 }
def sgnY (up:Bool) (rs:List Rul) (i:Nat):List Rul:=(rs.take i).map (sgnR up)++rs.drop i
theorem sgnY_len (up:Bool) (rs:List Rul) (i:Nat):(sgnY up rs i).length=rs.length:=by
 unfold sgnY; simp; omega
theorem sgnY_get (up:Bool) (rs:List Rul) {i:Nat} (hi:i<rs.length):(sgnY up rs i)[i]'(by rw [sgnY_len]; exact hi)=rs[i]:=by
 unfold sgnY
 rw [List.getElem_append_right (by simp; omega)]
 simp only [List.length_map,List.length_take,List.getElem_drop]
 congr 1
 omega
theorem sgnY_succ (up:Bool) (rs:List Rul) {i:Nat} (hi:i<rs.length):sgnY up rs (i+1)=(sgnY up rs i).set i (sgnR up rs[i]):=by
 unfold sgnY
 rw [List.set_append_right _ _ (by simp; omega)]
 have e:rs.drop i=rs[i]::rs.drop (i+1):=List.drop_eq_getElem_cons hi
 rw [← List.take_append_getElem hi,List.map_append,List.append_assoc,e]
 simp only [List.length_map,List.length_take,show min i rs.length=i by omega,Nat.sub_self,List.set_cons_zero]
 rfl
theorem sgnR_ok (up:Bool) (rs:List Rul) : ∀ r∈rs.map (sgnR up),r.sum=false∧r.kind=1∧(if up=true then r.down=0 else r.up=0):=by
 intro r hr
 obtain ⟨a,_,rfl⟩:=List.mem_map.1 hr
 unfold sgnR
 cases up <;> exact ⟨rfl,rfl,rfl⟩
/-- The learner behind some ticks, without rewards. -/
def sgS (x:Lnt) (l:List Evt):Nat→Lst
 | 0=>x.new
 | i+1=>lN x (sgS x l i) (atIn l i) (List.replicate x.rs.length 0)
theorem sgS_tick (x:Lnt) (l:List Evt) : ∀ i,i≤10000→(sgS x l i).tick=(i:Int)
 | 0,_=>rfl
 | i+1,h=>by
  show W ((sgS x l i).tick+1)=_
  rw [sgS_tick x l i (by omega),W_id (by omega) (by omega)]; rfl
theorem sgS_inv {x:Lnt} (hx:NetOK x) (l:List Evt) : ∀ i,i≤10000→LInv x (sgS x l i)
 | 0,_=>LInv.start hx
 | i+1,h=>(sgS_inv hx l i (by omega)).next hx (by rw [sgS_tick x l i (by omega)]; omega) _ _
/-- The network before a tick, as it is told. -/
def befO (x:Lnt) (l:List Evt):Nat→SObj
 | 0 => .rwin 4 x.n.S.length (x.n.S.flatMap Syn.vals)
 | i+1 => .row 4 x.n.S.length ((nowL x.n.S (sgS x l (i+1)).m).flatMap Syn.cells) 55
theorem befO_like (x:Lnt) (l:List Evt) : ∀ i,RowLike (befO x l i) 4 x.n.S.length ((nowL x.n.S (sgS x l i).m).flatMap Syn.vals)
 | 0 => .inl (by rw [show (sgS x l 0).m=x.m0 from rfl,now_m0]; rfl)
 | i+1 => .inr ⟨55,by rw [← syns_v]; rfl⟩
theorem sign_step {up:Bool} {x:Lnt} (hx:NetOK x) (hs : ∀ r∈x.rs,r.sum=false∧r.kind=1∧(if up=true then r.down=0 else r.up=0)) (l:List Evt) (i j:Nat) (hi:i≤10000) :
  (up=true→wAt (sgS x l i).m j≤wAt (sgS x l (i+1)).m j)∧(up=false→wAt (sgS x l (i+1)).m j≤wAt (sgS x l i).m j):=by
 refine ⟨fun h => ?_,fun h => ?_⟩
 ·exact sign_up hx (sgS_inv hx l i hi) (fun r hr=>(hs r hr).1) (fun r hr=>(hs r hr).2.1) (fun r hr=>by have:=(hs r hr).2.2; rw [if_pos h] at this; exact this) _ _ j
 ·exact sign_dn hx (sgS_inv hx l i hi) (fun r hr=>(hs r hr).1) (fun r hr=>(hs r hr).2.1) (fun r hr=>by have:=(hs r hr).2.2; rw [if_neg (by rw [h]; decide)] at this; exact this) _ _ j
end Go.Proofs.Ytnnlpdgnlccbjaa
namespace Go.Proofs.Ytnnlpdgnlccbjaa
open Go.Sx
set_option maxRecDepth 100000
set_option maxHeartbeats 16000000
theorem learnSigns_walk (w:World) (vN vS:Value) (n:Net) (hn:IsNet w vN vS n) (vR:Value) (rs:List Rul) (hr:RowsAt w vR 10 rs.length (rs.flatMap Rul.vals)) (vP:Value) (pl:List Int) (hpl:RowsAt w vP 1 pl.length (ints pl)) (vE:Value) (l:List Evt) (hE:RowsAt w vE 2 l.length (l.flatMap Evt.vals)) (vZ:Value) (p:List Prz) (hZ:RowsAt w vZ 3 p.length (p.flatMap Prz.vals)) (K:Int) (hrs:rs.length*80≤140737488355328) (up:Bool) :
  Calls Try.prog 9 #[caseV vN vS vR vP vE vZ n K,.bool up] w fun e w'=>e = .returned (.bool true)∧Ext w w':=by
 have hpf:PF.oks Try.prog [(2000,fun _ _=>none)]:=⟨trivial,trivial⟩
 have hc : ∀ w L' rd,(∀ p,rd=some p→p∈L')→Cx.ok ⟨Try.prog,tab,[(2000,fun _ _=>none)],9,Try.f9,[],w,L',rd⟩:=fun w L' rd h=>⟨tab_ok,hpf,Try.func9,mixed,h⟩
 obtain ⟨hn1,hn2⟩:=hn
 have hrows:AllP (fun x:Value × Nat × Nat × List Value=>RowsAt w x.1 x.2.1 x.2.2.1 x.2.2.2) [(vN,8,n.N.length,n.N.flatMap Prm.vals),(vS,4,n.S.length,n.S.flatMap Syn.vals),(vR,10,rs.length,rs.flatMap Rul.vals),(vP,1,pl.length,ints pl),(vE,2,l.length,l.flatMap Evt.vals),(vZ,3,p.length,p.flatMap Prz.vals)]:=⟨hn1,hn2,hr,hpl,hE,hZ,trivial⟩
 have hrl2:rs.length<9223372036854775808:=by omega
 refine Run.startW (tab:=tab) (pf:=[(2000,fun _ _=>none)]) (cuts:=[]) Try.func9 rfl _ hrows [.agg [.opq 0,ii n.inp,.opq 1,.opq 2,.opq 3,.opq 4,.opq 5,ii K],.v (.bool up)] [caseV vN vS vR vP vE vZ n K,.bool up] [(0,.rwin 8 n.N.length (n.N.flatMap Prm.vals)),(1,.rwin 4 n.S.length (n.S.flatMap Syn.vals)),(2,.rwin 10 rs.length (rs.flatMap Rul.vals)),(3,.rwin 1 pl.length (ints pl)),(4,.rwin 2 l.length (l.flatMap Evt.vals)),(5,.rwin 3 p.length (p.flatMap Prz.vals))] 6 rfl rfl (by show [Value.agg [(SV.opq 0).conc _,.int .i64 n.inp,(SV.opq 1).conc _,(SV.opq 2).conc _,(SV.opq 3).conc _,(SV.opq 4).conc _,(SV.opq 5).conc _,.int .i64 K].toArray,.bool up]=_; rw [conc_rows hrows (k:=0) rfl,conc_rows hrows (k:=1) rfl,conc_rows hrows (k:=2) rfl,conc_rows hrows (k:=3) rfl,conc_rows hrows (k:=4) rfl,conc_rows hrows (k:=5) rfl]; rfl) (by simp [SV.scs,SV.sc]) rfl (Run.of_wpK (hc w [] none (fun _ h=>by cases h)) 100 _ ?_)
 conv=>whnf
 refine Run.appendC (hc w [] none (fun _ h=>by cases h)) (j:=7) (e:=10) (te:=36) rfl rfl rfl rfl rfl rfl rfl (fun ρ w1 hW=>hW.rowsAt rfl) (one_rul rs) rfl rfl rfl rfl (by decide) ⟨by omega,by omega⟩ [(6,.cells [.opq 0,ii n.inp,.opq 1,.opq 2,.opq 3,.opq 4,.opq 5,ii K] 45),(0,.rwin 8 n.N.length (n.N.flatMap Prm.vals)),(1,.rwin 4 n.S.length (n.S.flatMap Syn.vals)),(2,.rwin 10 rs.length (rs.flatMap Rul.vals)),(3,.rwin 1 pl.length (ints pl)),(4,.rwin 2 l.length (l.flatMap Evt.vals)),(5,.rwin 3 p.length (p.flatMap Prz.vals))] ⟨⟨rfl,(show 6≠7 by decide)⟩,⟨rfl,(show 0≠7 by decide)⟩,⟨rfl,(show 1≠7 by decide)⟩,⟨rfl,(show 2≠7 by decide)⟩,⟨rfl,(show 3≠7 by decide)⟩,⟨rfl,(show 4≠7 by decide)⟩,⟨rfl,(show 5≠7 by decide)⟩,trivial⟩ ?_
 refine Run.of_wpK (hc w [] none (fun _ h=>by cases h)) 1000 _ ?_
 conv=>whnf
 refine Run.trim (T':=[(1,.v (.bool up)),(2,.ptr 6 0),(5,ii (((0:Nat):Nat):Int))]) (M':=[(8,.row 10 rs.length ((sgnY up rs (0:Nat)).flatMap Rul.cells) 36),(6,.cells [.opq 0,ii n.inp,.opq 1,.opq 8,.opq 3,.opq 4,.opq 5,ii K] 45),(0,.rwin 8 n.N.length (n.N.flatMap Prm.vals)),(1,.rwin 4 n.S.length (n.S.flatMap Syn.vals)),(2,.rwin 10 rs.length (rs.flatMap Rul.vals)),(3,.rwin 1 pl.length (ints pl)),(4,.rwin 2 l.length (l.flatMap Evt.vals))]) 9 ⟨⟨rfl,trivial⟩,⟨rfl,(show 6<9 by decide)⟩,⟨rfl,trivial⟩,trivial⟩ ⟨⟨by rw [ruls_v]; rfl,by omega,scs_ruls _ _⟩,⟨rfl,by omega,by simp [SObj.sc,SV.scs,SV.sc]⟩,⟨rfl,by omega,trivial⟩,⟨rfl,by omega,trivial⟩,⟨rfl,by omega,trivial⟩,⟨rfl,by omega,trivial⟩,⟨rfl,by omega,trivial⟩,trivial⟩ (fun p hp=>by cases hp) ?_
 refine Run.upToJ (T:=fun i=>[(1,.v (.bool up)),(2,.ptr 6 0),(5,ii ((i:Nat):Int))]) (M:=fun i=>[(8,.row 10 rs.length ((sgnY up rs i).flatMap Rul.cells) 36),(6,.cells [.opq 0,ii n.inp,.opq 1,.opq 8,.opq 3,.opq 4,.opq 5,ii K] 45),(0,.rwin 8 n.N.length (n.N.flatMap Prm.vals)),(1,.rwin 4 n.S.length (n.S.flatMap Syn.vals)),(2,.rwin 10 rs.length (rs.flatMap Rul.vals)),(3,.rwin 1 pl.length (ints pl)),(4,.rwin 2 l.length (l.flatMap Evt.vals))]) (fun _=>True) (rs.length) (trivial) ?_ ?_
 ·intro i hi hJ ih
  refine Run.of_wpK (hc w [] none (fun _ h=>by cases h)) 1000 _ ?_
  conv=>whnf
  rw [decide_eq_true (show ((i:Nat):Int)<(rs.length:Int) by omega)]
  conv=>whnf
  have hYl:=sgnY_len up rs i
  have hYg:=sgnY_get up rs hi
  obtain ⟨Y,hY⟩ : ∃ Y,sgnY up rs i=Y:=⟨_,rfl⟩
  have hYs:=sgnY_succ up rs hi
  simp only [hY] at hYl hYg hYs
  rw [hY]
  conv=>whnf
  have hiY:i<Y.length:=by omega
  obtain ⟨r0,hr0⟩ : ∃ r0,rs[i]=r0:=⟨_,rfl⟩
  rw [hr0] at hYg hYs
  refine Run.draw (hc w [] none (fun _ h=>by cases h)) 18 ?_
  rw [show upto 0 18=upto 0 12++(upto 12 3++upto 15 3) from rfl]
  simp only [drawK_app]
  conv=>whnf
  refine ⟨by omega,?_⟩
  conv=>whnf
  rw [opF_storeRf (f:=Rul.cells) (l:=Y) i 0 { r0 with kind:=1 } rfl rfl rfl rfl rfl Rul.clen (by rw [idx_nat]) hiY (by decide) rfl rfl (by rw [hYg]; rfl)]
  conv=>whnf
  refine ⟨by omega,?_⟩
  conv=>whnf
  rw [opF_storeRf (f:=Rul.cells) (l:=Y.set i { r0 with kind:=1 }) i 6 { r0 with kind:=1,fade:=0 } rfl rfl rfl rfl rfl Rul.clen (by rw [idx_nat]) (by rw [List.length_set]; exact hiY) (by decide) rfl rfl (by rw [List.getElem_set_self]; rfl),List.set_set]
  conv=>whnf
  refine ⟨by omega,?_⟩
  conv=>whnf
  rw [opF_storeRf (f:=Rul.cells) (l:=Y.set i { r0 with kind:=1,fade:=0 }) i 9 { r0 with kind:=1,fade:=0,sum:=false } rfl rfl rfl rfl rfl Rul.clen (by rw [idx_nat]) (by rw [List.length_set]; exact hiY) (by decide) rfl rfl (by rw [List.getElem_set_self]; rfl),List.set_set]
  conv=>whnf
  refine ⟨by kernel_rfl,?_⟩
  refine Run.of_wpK (hc w [] none (fun _ h=>by cases h)) 1000 _ ?_
  conv=>whnf
  cases hup:up
  ·conv=>whnf
   refine ⟨by omega,?_⟩
   conv=>whnf
   rw [opF_storeRf (f:=Rul.cells) (l:=Y.set i { r0 with kind:=1,fade:=0,sum:=false }) i 1 { r0 with kind:=1,fade:=0,sum:=false,up:=0 } rfl rfl rfl rfl rfl Rul.clen (by rw [idx_nat]) (by rw [List.length_set]; exact hiY) (by decide) rfl rfl (by rw [List.getElem_set_self]; rfl),List.set_set]
   conv=>whnf
   rw [hup] at ih hYs
   have hs2:Y.set i { r0 with kind:=1,fade:=0,sum:=false,up:=0 }=sgnY false rs (i+1):=by rw [hYs]; rfl
   rw [hs2]
   exact Run.trim (T':=[(1,.v (.bool false)),(2,.ptr 6 0),(5,ii (((i+1:Nat):Nat):Int))]) (M':=[(8,.row 10 rs.length ((sgnY false rs (i+1:Nat)).flatMap Rul.cells) 36),(6,.cells [.opq 0,ii n.inp,.opq 1,.opq 8,.opq 3,.opq 4,.opq 5,ii K] 45),(0,.rwin 8 n.N.length (n.N.flatMap Prm.vals)),(1,.rwin 4 n.S.length (n.S.flatMap Syn.vals)),(2,.rwin 10 rs.length (rs.flatMap Rul.vals)),(3,.rwin 1 pl.length (ints pl)),(4,.rwin 2 l.length (l.flatMap Evt.vals))]) 9 ⟨⟨rfl,trivial⟩,⟨rfl,(show 6<9 by decide)⟩,⟨congrArg some (congrArg ii (wrap_succ (by omega))),trivial⟩,trivial⟩ ⟨⟨rfl,by omega,scs_ruls _ _⟩,⟨rfl,by omega,by simp [SObj.sc,SV.scs,SV.sc]⟩,⟨rfl,by omega,trivial⟩,⟨rfl,by omega,trivial⟩,⟨rfl,by omega,trivial⟩,⟨rfl,by omega,trivial⟩,⟨rfl,by omega,trivial⟩,trivial⟩ (fun p hp=>by cases hp) (ih trivial)
  ·conv=>whnf
   refine ⟨by omega,?_⟩
   conv=>whnf
   rw [opF_storeRf (f:=Rul.cells) (l:=Y.set i { r0 with kind:=1,fade:=0,sum:=false }) i 2 { r0 with kind:=1,fade:=0,sum:=false,down:=0 } rfl rfl rfl rfl rfl Rul.clen (by rw [idx_nat]) (by rw [List.length_set]; exact hiY) (by decide) rfl rfl (by rw [List.getElem_set_self]; rfl),List.set_set]
   conv=>whnf
   rw [hup] at ih hYs
   have hs2:Y.set i { r0 with kind:=1,fade:=0,sum:=false,down:=0 }=sgnY true rs (i+1):=by rw [hYs]; rfl
   rw [hs2]
   exact Run.trim (T':=[(1,.v (.bool true)),(2,.ptr 6 0),(5,ii (((i+1:Nat):Nat):Int))]) (M':=[(8,.row 10 rs.length ((sgnY true rs (i+1:Nat)).flatMap Rul.cells) 36),(6,.cells [.opq 0,ii n.inp,.opq 1,.opq 8,.opq 3,.opq 4,.opq 5,ii K] 45),(0,.rwin 8 n.N.length (n.N.flatMap Prm.vals)),(1,.rwin 4 n.S.length (n.S.flatMap Syn.vals)),(2,.rwin 10 rs.length (rs.flatMap Rul.vals)),(3,.rwin 1 pl.length (ints pl)),(4,.rwin 2 l.length (l.flatMap Evt.vals))]) 9 ⟨⟨rfl,trivial⟩,⟨rfl,(show 6<9 by decide)⟩,⟨congrArg some (congrArg ii (wrap_succ (by omega))),trivial⟩,trivial⟩ ⟨⟨rfl,by omega,scs_ruls _ _⟩,⟨rfl,by omega,by simp [SObj.sc,SV.scs,SV.sc]⟩,⟨rfl,by omega,trivial⟩,⟨rfl,by omega,trivial⟩,⟨rfl,by omega,trivial⟩,⟨rfl,by omega,trivial⟩,⟨rfl,by omega,trivial⟩,trivial⟩ (fun p hp=>by cases hp) (ih trivial)
 ·intro hJ
  refine Run.of_wpK (hc w [] none (fun _ h=>by cases h)) 1000 _ ?_
  conv=>whnf
  rw [decide_eq_false (show ¬ ((rs.length:Nat):Int)<(rs.length:Int) by omega)]
  conv=>whnf
  rw [show sgnY up rs rs.length=rs.map (sgnR up) by unfold sgnY; simp]
  have hok0:=sgnR_ok up rs
  obtain ⟨R',hR'⟩ : ∃ R',rs.map (sgnR up)=R':=⟨_,rfl⟩
  have hRl:rs.length=R'.length:=by rw [← hR',List.length_map]
  rw [hR',hRl]
  rw [hR'] at hok0
  conv=>whnf
  refine Run.callE (g:=23) (vs:=[.agg [.opq 0,ii n.inp,.opq 1,.opq 8,.opq 3,.opq 4,.v (.slice none 0 0),ii K]]) (caps:=[]) (.v (.bool (smallB n R' pl l [] K))) (fun ρ w1 hW=>by
   have h8:=hW.rowsAtR (i:=8) rfl (by decide)
   rw [ruls_v,concs_v] at h8
   exact small_run _ _ n _ R' _ pl _ l _ [] K w1 ⟨hW.rowsAt (i:=0) rfl,hW.rowsAt (i:=1) rfl⟩ h8 (hW.rowsAt (i:=3) rfl) (hW.rowsAt (i:=4) rfl) ⟨rfl,none,0,rfl,Nat.le_refl _,.inl rfl⟩) (ent _ _ Try.func23 (by kernel_rfl) rfl) rfl rfl rfl rfl rfl rfl rfl trivial ?_
  cases hsm:smallB n R' pl l [] K
  case false =>
   refine Run.of_wpK (hc w [] none (fun _ h=>by cases h)) 1000 _ ?_
   conv=>whnf
   refine Run.callE (g:=14) (vs:=[]) (caps:=[]) (.v (.bool true)) (fun ρ w1 hW=>works_run w1) (ent _ _ Try.func14 (by kernel_rfl) rfl) rfl rfl rfl rfl rfl rfl rfl trivial ?_
   refine Run.of_wpK (hc w [] none (fun _ h=>by cases h)) 1000 _ ?_
   conv=>whnf
   exact ⟨fun ρ w' hW _=>⟨rfl,hW.toExt⟩⟩
  have hok:=small_ok hsm
  obtain ⟨x,rfl,rfl,rfl⟩ : ∃ x:Lnt,x.n=n∧x.rs=R'∧x.pl=pl:=⟨⟨n,R',pl⟩,rfl,rfl,rfl⟩
  obtain ⟨KN,rfl⟩:=Int.eq_ofNat_of_zero_le hok.K0
  have hK1:=hok.K1
  have hK2:KN≤200:=by omega
  have hx:NetOK x:=netOK_of hok.chk
  have hx1:=hx.N2
  have hxN:=hx.N1
  have hx2:=hx.S1
  have hx3:=hx.rl
  have hx4:x.pl.length=x.n.S.length:=hx.lpl
  have hev:=evs_ok (prep_evs hok.prep) ⟨hx.inp0,hx.inp1⟩
  have hel:=hok.ev
  refine Run.of_wpK (hc w [] none (fun _ h=>by cases h)) 1000 _ ?_
  conv=>whnf
  refine Run.callR (vs:=[.agg [.opq 0,ii x.n.inp,.opq 1],.opq 2,.opq 3]) (caps:=[]) (caps2:=[]) (new_ok x hok.chk) (ent _ _ Try.func25 (by kernel_rfl) rfl) rfl rfl rfl rfl rfl rfl [.agg [.opq 0,ii x.n.inp,.opq 1],.opq 8,.opq 3] rfl ((rq [(2,8),(8,2)])) rfl (fun q hq=>by have inv : ∀ q,q<4→(rq [(2,8),(8,2)]) q<9:=(by decide); exact inv q hq) (fun q hq j hj hne=>by have inj : ∀ i,i<4 → ∀ j,j<4→i≠j→(rq [(2,8),(8,2)]) i≠(rq [(2,8),(8,2)]) j:=(by decide); exact inj q hq j hj hne) (by decide)
   ⟨⟨by omega,trivial,⟨_,rfl,Conv.refl _⟩,.inl rfl,fun _=>by simp⟩,⟨by omega,trivial,⟨_,rfl,Conv.refl _⟩,.inl rfl,fun _=>by simp⟩,⟨by omega,trivial,⟨_,rfl,Conv.row (by decide) (ruls_v _)⟩,.inl rfl,fun _=>by simp⟩,⟨by omega,trivial,⟨_,rfl,Conv.refl _⟩,.inl rfl,fun _=>by simp⟩,trivial⟩ (fun i hi=>by cases hi) (.tup [.ptr 9 0,ii 0]) ((9,.cells [ii 0,.opq 10,ii x.n.inp,.opq 11,.opq 12,.mp 17,.mp 18,.mp 19,.mp 20,.mp 21,.mp 22,.mp 23,.mp 24,.mp 25,.mp 26,.mp 27,.mp 28,.mp 29,.mp 30,.mp 31,.mp 32,.opq 13,.opq 14,.opq 15,.mp 16] 96)::(10,.row 8 x.n.N.length ((x.n.N.flatMap Prm.vals).map .v) 60)::(11,.row 4 x.n.S.length ((x.n.S.flatMap Syn.vals).map .v) 55)::(12,.row 2 x.n.N.length ((List.replicate x.n.N.length ste0).flatMap Ste.cells) 139)::(13,.row 10 x.rs.length ((x.rs.flatMap Rul.vals).map .v) 36)::(14,.row 1 x.pl.length ((ints x.pl).map .v) 3)::(15,.row 4 x.pl.length (x.m0.flatMap Mrk.cells) 84)::(16,.kmap true true x.tot)::(17,.kmap false false [])::(18,.kmap false false [])::(19,.kmap false false [])::(20,.kmap false false [])::(21,.kmap false false [])::(22,.kmap false false [])::(23,.kmap false false [])::(24,.kmap false false [])::(25,.kmap false false [])::(26,.kmap false false [])::(27,.kmap false false [])::(28,.kmap false false [])::(29,.kmap false false [])::(30,.kmap false false [])::(31,.kmap false false [])::(32,.kmap false false [])::(8,.row 10 x.rs.length (x.rs.flatMap Rul.cells) 36)::(6,.cells [.opq 0,ii x.n.inp,.opq 1,.opq 8,.opq 3,.opq 4,.v (.slice none 0 0),ii (KN:Int)] 45)::(0,.rwin 8 x.n.N.length (x.n.N.flatMap Prm.vals))::(1,.rwin 4 x.n.S.length (x.n.S.flatMap Syn.vals))::(3,.rwin 1 x.pl.length (ints x.pl))::(4,.rwin 2 l.length (l.flatMap Evt.vals))::[]) 33 rfl rfl
   ⟨.inr ⟨4,_,rfl,rfl,rfl,rfl⟩,.inr ⟨5,_,rfl,rfl,by rw [oren_fix (S:=fun _=>False) (fun i hi=>hi.elim) (o := .row 8 x.n.N.length ((x.n.N.flatMap Prm.vals).map .v) 60) (scs_v _ _)],rfl⟩,.inr ⟨6,_,rfl,rfl,by rw [oren_fix (S:=fun _=>False) (fun i hi=>hi.elim) (o := .row 4 x.n.S.length ((x.n.S.flatMap Syn.vals).map .v) 55) (scs_v _ _)],rfl⟩,.inr ⟨7,_,rfl,rfl,by rw [oren_fix (S:=fun _=>False) (fun i hi=>hi.elim) (o := .row 2 x.n.N.length ((List.replicate x.n.N.length ste0).flatMap Ste.cells) 139) (scs_st _ _)],rfl⟩,.inr ⟨8,_,rfl,rfl,by rw [oren_fix (S:=fun _=>False) (fun i hi=>hi.elim) (o := .row 10 x.rs.length ((x.rs.flatMap Rul.vals).map .v) 36) (scs_v _ _)],rfl⟩,.inr ⟨9,_,rfl,rfl,by rw [oren_fix (S:=fun _=>False) (fun i hi=>hi.elim) (o := .row 1 x.pl.length ((ints x.pl).map .v) 3) (scs_v _ _)],rfl⟩,.inr ⟨10,_,rfl,rfl,by rw [oren_fix (S:=fun _=>False) (fun i hi=>hi.elim) (o := .row 4 x.n.S.length (x.m0.flatMap Mrk.cells) 84) (scs_marks _ _),← hx4],rfl⟩,.inr ⟨11,_,rfl,rfl,rfl,rfl⟩,.inr ⟨12,_,rfl,rfl,rfl,rfl⟩,.inr ⟨13,_,rfl,rfl,rfl,rfl⟩,.inr ⟨14,_,rfl,rfl,rfl,rfl⟩,.inr ⟨15,_,rfl,rfl,rfl,rfl⟩,.inr ⟨16,_,rfl,rfl,rfl,rfl⟩,.inr ⟨17,_,rfl,rfl,rfl,rfl⟩,.inr ⟨18,_,rfl,rfl,rfl,rfl⟩,.inr ⟨19,_,rfl,rfl,rfl,rfl⟩,.inr ⟨20,_,rfl,rfl,rfl,rfl⟩,.inr ⟨21,_,rfl,rfl,rfl,rfl⟩,.inr ⟨22,_,rfl,rfl,rfl,rfl⟩,.inr ⟨23,_,rfl,rfl,rfl,rfl⟩,.inr ⟨24,_,rfl,rfl,rfl,rfl⟩,.inr ⟨25,_,rfl,rfl,rfl,rfl⟩,.inr ⟨26,_,rfl,rfl,rfl,rfl⟩,.inr ⟨27,_,rfl,rfl,rfl,rfl⟩,.inl ⟨rfl,by simp⟩,.inl ⟨rfl,by simp⟩,.inl ⟨rfl,by simp⟩,.inl ⟨rfl,by simp⟩,.inl ⟨rfl,by simp⟩,.inl ⟨rfl,by simp⟩,trivial⟩ ?_
  refine Run.of_wpK (hc w [] none (fun _ h=>by cases h)) 1000 _ ?_
  conv=>whnf
  have hrqe : ∀ i,rq [(34,1),(35,0)] i=if i=34 then 1 else if i=35 then 0 else i:=fun i=>by
   unfold rq
   rw [look_cons,look_cons]
   by_cases e1:34=i
   ·subst e1; rfl
   ·rw [if_neg e1]
    by_cases e2:35=i
    ·subst e2; rfl
    ·rw [if_neg e2,if_neg (Ne.symm e1),if_neg (Ne.symm e2)]; rfl
  have hMB0:AllP (fun y:Nat × SObj=>y.1≠1∧y.1≠0∧y.1<36) ([(9,.cells [ii (((0:Nat):Nat):Int),.opq 10,ii x.n.inp,.opq 11,.opq 12,.mp 17,.mp 18,.mp 19,.mp 20,.mp 21,.mp 22,.mp 23,.mp 24,.mp 25,.mp 26,.mp 27,.mp 28,.mp 29,.mp 30,.mp 31,.mp 32,.opq 13,.opq 14,.opq 15,.mp 16] 96),(10,.row 8 x.n.N.length ((x.n.N.flatMap Prm.vals).map .v) 60),(11,.row 4 x.n.S.length ((x.n.S.flatMap Syn.vals).map .v) 55),(12,.row 2 x.n.N.length ((sgS x l (0:Nat)).st.flatMap Ste.cells) 139),(13,.row 10 x.rs.length ((x.rs.flatMap Rul.vals).map .v) 36),(14,.row 1 x.pl.length ((ints x.pl).map .v) 3),(15,.row 4 x.pl.length ((sgS x l (0:Nat)).m.flatMap Mrk.cells) 84),(16,.kmap true true x.tot),(17,.kmap false false (sentE ((sgS x l (0:Nat)).sm 0))),(18,.kmap false false (sentE ((sgS x l (0:Nat)).sm 1))),(19,.kmap false false (sentE ((sgS x l (0:Nat)).sm 2))),(20,.kmap false false (sentE ((sgS x l (0:Nat)).sm 3))),(21,.kmap false false (sentE ((sgS x l (0:Nat)).sm 4))),(22,.kmap false false (sentE ((sgS x l (0:Nat)).sm 5))),(23,.kmap false false (sentE ((sgS x l (0:Nat)).sm 6))),(24,.kmap false false (sentE ((sgS x l (0:Nat)).sm 7))),(25,.kmap false false (sentE ((sgS x l (0:Nat)).sm 8))),(26,.kmap false false (sentE ((sgS x l (0:Nat)).sm 9))),(27,.kmap false false (sentE ((sgS x l (0:Nat)).sm 10))),(28,.kmap false false (sentE ((sgS x l (0:Nat)).sm 11))),(29,.kmap false false (sentE ((sgS x l (0:Nat)).sm 12))),(30,.kmap false false (sentE ((sgS x l (0:Nat)).sm 13))),(31,.kmap false false (sentE ((sgS x l (0:Nat)).sm 14))),(32,.kmap false false (sentE ((sgS x l (0:Nat)).sm 15))),(33,.cells [.opq 35,ii x.n.inp,.opq 34] 25),(34,befO x l (0:Nat)),(8,.row 10 x.rs.length (x.rs.flatMap Rul.cells) 36),(6,.cells [.opq 0,ii x.n.inp,.opq 1,.opq 8,.opq 3,.opq 4,.v (.slice none 0 0),ii (KN:Int)] 45),(4,.rwin 2 l.length (l.flatMap Evt.vals))]):=⟨⟨by omega,by omega,by omega⟩,⟨by omega,by omega,by omega⟩,⟨by omega,by omega,by omega⟩,⟨by omega,by omega,by omega⟩,⟨by omega,by omega,by omega⟩,⟨by omega,by omega,by omega⟩,⟨by omega,by omega,by omega⟩,⟨by omega,by omega,by omega⟩,⟨by omega,by omega,by omega⟩,⟨by omega,by omega,by omega⟩,⟨by omega,by omega,by omega⟩,⟨by omega,by omega,by omega⟩,⟨by omega,by omega,by omega⟩,⟨by omega,by omega,by omega⟩,⟨by omega,by omega,by omega⟩,⟨by omega,by omega,by omega⟩,⟨by omega,by omega,by omega⟩,⟨by omega,by omega,by omega⟩,⟨by omega,by omega,by omega⟩,⟨by omega,by omega,by omega⟩,⟨by omega,by omega,by omega⟩,⟨by omega,by omega,by omega⟩,⟨by omega,by omega,by omega⟩,⟨by omega,by omega,by omega⟩,⟨by omega,by omega,by omega⟩,⟨by omega,by omega,by omega⟩,⟨by omega,by omega,by omega⟩,⟨by omega,by omega,by omega⟩,⟨by omega,by omega,by omega⟩,trivial⟩
  refine Run.less (s':=⟨[(1,.v (.bool up)),(2,.ptr 6 0),(6,.ptr 9 0),(8,.ptr 33 0),(9,ii (((0:Nat):Nat):Int))],[(9,.cells [ii (((0:Nat):Nat):Int),.opq 10,ii x.n.inp,.opq 11,.opq 12,.mp 17,.mp 18,.mp 19,.mp 20,.mp 21,.mp 22,.mp 23,.mp 24,.mp 25,.mp 26,.mp 27,.mp 28,.mp 29,.mp 30,.mp 31,.mp 32,.opq 13,.opq 14,.opq 15,.mp 16] 96),(10,.row 8 x.n.N.length ((x.n.N.flatMap Prm.vals).map .v) 60),(11,.row 4 x.n.S.length ((x.n.S.flatMap Syn.vals).map .v) 55),(12,.row 2 x.n.N.length ((sgS x l (0:Nat)).st.flatMap Ste.cells) 139),(13,.row 10 x.rs.length ((x.rs.flatMap Rul.vals).map .v) 36),(14,.row 1 x.pl.length ((ints x.pl).map .v) 3),(15,.row 4 x.pl.length ((sgS x l (0:Nat)).m.flatMap Mrk.cells) 84),(16,.kmap true true x.tot),(17,.kmap false false (sentE ((sgS x l (0:Nat)).sm 0))),(18,.kmap false false (sentE ((sgS x l (0:Nat)).sm 1))),(19,.kmap false false (sentE ((sgS x l (0:Nat)).sm 2))),(20,.kmap false false (sentE ((sgS x l (0:Nat)).sm 3))),(21,.kmap false false (sentE ((sgS x l (0:Nat)).sm 4))),(22,.kmap false false (sentE ((sgS x l (0:Nat)).sm 5))),(23,.kmap false false (sentE ((sgS x l (0:Nat)).sm 6))),(24,.kmap false false (sentE ((sgS x l (0:Nat)).sm 7))),(25,.kmap false false (sentE ((sgS x l (0:Nat)).sm 8))),(26,.kmap false false (sentE ((sgS x l (0:Nat)).sm 9))),(27,.kmap false false (sentE ((sgS x l (0:Nat)).sm 10))),(28,.kmap false false (sentE ((sgS x l (0:Nat)).sm 11))),(29,.kmap false false (sentE ((sgS x l (0:Nat)).sm 12))),(30,.kmap false false (sentE ((sgS x l (0:Nat)).sm 13))),(31,.kmap false false (sentE ((sgS x l (0:Nat)).sm 14))),(32,.kmap false false (sentE ((sgS x l (0:Nat)).sm 15))),(33,.cells [.opq 35,ii x.n.inp,.opq 34] 25),(34,befO x l (0:Nat)),(8,.row 10 x.rs.length (x.rs.flatMap Rul.cells) 36),(6,.cells [.opq 0,ii x.n.inp,.opq 1,.opq 8,.opq 3,.opq 4,.v (.slice none 0 0),ii (KN:Int)] 45),(4,.rwin 2 l.length (l.flatMap Evt.vals))],36,[],_⟩) (rq [(34,1),(35,0)]) ⟨AllP.mem ⟨⟨rfl,trivial⟩,⟨rfl,(show 6<36 by decide)⟩,⟨rfl,(show 9<36 by decide)⟩,⟨rfl,(show 33<36 by decide)⟩,⟨rfl,trivial⟩,trivial⟩,AllP.mem ⟨⟨rfl,(show 9<36 by decide),by simp [SObj.sc,SV.scs,SV.sc]⟩,⟨congrArg some (oren_fix (S:=fun _=>False) (fun i hi=>hi.elim) (o := .row 8 x.n.N.length ((x.n.N.flatMap Prm.vals).map .v) 60) (scs_v _ _)).symm,(show 10<36 by decide),scs_v _ _⟩,⟨congrArg some (oren_fix (S:=fun _=>False) (fun i hi=>hi.elim) (o := .row 4 x.n.S.length ((x.n.S.flatMap Syn.vals).map .v) 55) (scs_v _ _)).symm,(show 11<36 by decide),scs_v _ _⟩,⟨congrArg some (oren_fix (S:=fun _=>False) (fun i hi=>hi.elim) (o := .row 2 x.n.N.length ((sgS x l (0:Nat)).st.flatMap Ste.cells) 139) (scs_st _ _)).symm,(show 12<36 by decide),scs_st _ _⟩,⟨congrArg some (oren_fix (S:=fun _=>False) (fun i hi=>hi.elim) (o := .row 10 x.rs.length ((x.rs.flatMap Rul.vals).map .v) 36) (scs_v _ _)).symm,(show 13<36 by decide),scs_v _ _⟩,⟨congrArg some (oren_fix (S:=fun _=>False) (fun i hi=>hi.elim) (o := .row 1 x.pl.length ((ints x.pl).map .v) 3) (scs_v _ _)).symm,(show 14<36 by decide),scs_v _ _⟩,⟨congrArg some (oren_fix (S:=fun _=>False) (fun i hi=>hi.elim) (o := .row 4 x.pl.length ((sgS x l (0:Nat)).m.flatMap Mrk.cells) 84) (scs_marks _ _)).symm,(show 15<36 by decide),scs_marks _ _⟩,⟨rfl,(show 16<36 by decide),trivial⟩,⟨rfl,(show 17<36 by decide),trivial⟩,⟨rfl,(show 18<36 by decide),trivial⟩,⟨rfl,(show 19<36 by decide),trivial⟩,⟨rfl,(show 20<36 by decide),trivial⟩,⟨rfl,(show 21<36 by decide),trivial⟩,⟨rfl,(show 22<36 by decide),trivial⟩,⟨rfl,(show 23<36 by decide),trivial⟩,⟨rfl,(show 24<36 by decide),trivial⟩,⟨rfl,(show 25<36 by decide),trivial⟩,⟨rfl,(show 26<36 by decide),trivial⟩,⟨rfl,(show 27<36 by decide),trivial⟩,⟨rfl,(show 28<36 by decide),trivial⟩,⟨rfl,(show 29<36 by decide),trivial⟩,⟨rfl,(show 30<36 by decide),trivial⟩,⟨rfl,(show 31<36 by decide),trivial⟩,⟨rfl,(show 32<36 by decide),trivial⟩,⟨rfl,(show 33<36 by decide),by simp [SObj.sc,SV.scs,SV.sc]⟩,⟨rfl,(show 34<36 by decide),(befO_like x l (0:Nat)).sc _⟩,⟨congrArg some (oren_fix (S:=fun _=>False) (fun i hi=>hi.elim) (o := .row 10 x.rs.length (x.rs.flatMap Rul.cells) 36) (scs_ruls _ _)).symm,(show 8<36 by decide),scs_ruls _ _⟩,⟨rfl,(show 6<36 by decide),by simp [SObj.sc,SV.scs,SV.sc]⟩,⟨rfl,(show 4<36 by decide),trivial⟩,trivial⟩,fun y hy z hz hne => ?_,(fun p hp=>by cases hp),rfl,rfl⟩ ?_
  ·have h1:=hMB0.mem y hy
   have h2:=hMB0.mem z hz
   rw [hrqe,hrqe]
   split <;> split <;> (try split) <;> (try split) <;> omega
  refine Run.upToJ (T:=fun i=>[(1,.v (.bool up)),(2,.ptr 6 0),(6,.ptr 9 0),(8,.ptr 33 0),(9,ii ((i:Nat):Int))]) (M:=fun i=>[(9,.cells [ii ((i:Nat):Int),.opq 10,ii x.n.inp,.opq 11,.opq 12,.mp 17,.mp 18,.mp 19,.mp 20,.mp 21,.mp 22,.mp 23,.mp 24,.mp 25,.mp 26,.mp 27,.mp 28,.mp 29,.mp 30,.mp 31,.mp 32,.opq 13,.opq 14,.opq 15,.mp 16] 96),(10,.row 8 x.n.N.length ((x.n.N.flatMap Prm.vals).map .v) 60),(11,.row 4 x.n.S.length ((x.n.S.flatMap Syn.vals).map .v) 55),(12,.row 2 x.n.N.length ((sgS x l i).st.flatMap Ste.cells) 139),(13,.row 10 x.rs.length ((x.rs.flatMap Rul.vals).map .v) 36),(14,.row 1 x.pl.length ((ints x.pl).map .v) 3),(15,.row 4 x.pl.length ((sgS x l i).m.flatMap Mrk.cells) 84),(16,.kmap true true x.tot),(17,.kmap false false (sentE ((sgS x l i).sm 0))),(18,.kmap false false (sentE ((sgS x l i).sm 1))),(19,.kmap false false (sentE ((sgS x l i).sm 2))),(20,.kmap false false (sentE ((sgS x l i).sm 3))),(21,.kmap false false (sentE ((sgS x l i).sm 4))),(22,.kmap false false (sentE ((sgS x l i).sm 5))),(23,.kmap false false (sentE ((sgS x l i).sm 6))),(24,.kmap false false (sentE ((sgS x l i).sm 7))),(25,.kmap false false (sentE ((sgS x l i).sm 8))),(26,.kmap false false (sentE ((sgS x l i).sm 9))),(27,.kmap false false (sentE ((sgS x l i).sm 10))),(28,.kmap false false (sentE ((sgS x l i).sm 11))),(29,.kmap false false (sentE ((sgS x l i).sm 12))),(30,.kmap false false (sentE ((sgS x l i).sm 13))),(31,.kmap false false (sentE ((sgS x l i).sm 14))),(32,.kmap false false (sentE ((sgS x l i).sm 15))),(33,.cells [.opq 35,ii x.n.inp,.opq 34] 25),(34,befO x l i),(8,.row 10 x.rs.length (x.rs.flatMap Rul.cells) 36),(6,.cells [.opq 0,ii x.n.inp,.opq 1,.opq 8,.opq 3,.opq 4,.v (.slice none 0 0),ii (KN:Int)] 45),(4,.rwin 2 l.length (l.flatMap Evt.vals))]) (fun _=>True) (KN) (trivial) ?_ ?_
  ·intro i hi hJ ih
   refine Run.of_wpK (hc w [] none (fun _ h=>by cases h)) 1000 _ ?_
   conv=>whnf
   rw [decide_eq_true (show ((i:Nat):Int)<(KN:Int) by omega)]
   conv=>whnf
   obtain ⟨s,hs⟩ : ∃ s,sgS x l i=s:=⟨_,rfl⟩
   have hst:s.tick=(i:Int):=by rw [← hs]; exact sgS_tick x l i (by omega)
   have hinv:LInv x s:=by rw [← hs]; exact sgS_inv hx l i (by omega)
   refine Run.callR (vs:=[.agg [.opq 0,ii x.n.inp,.opq 1,.opq 2,.opq 3,.opq 4,.v (.slice none 0 0),ii (KN:Int)],ii ((i:Nat):Int)]) (caps:=[]) (caps2:=[]) (at_spec0 x.n.inp (KN:Int) ((i:Nat):Int) x.rs l (by omega) (by omega)) (ent _ _ Try.func26 (by kernel_rfl) rfl) rfl rfl rfl rfl rfl rfl [.agg [.opq 0,ii x.n.inp,.opq 1,.opq 8,.opq 3,.opq 4,.v (.slice none 0 0),ii (KN:Int)],ii ((i:Nat):Int)] rfl (fun q=>if q=2 then 8 else if q=8 then 2 else q) rfl (fun q hq=>by have inv : ∀ q,q<6→(fun q=>if q=2 then 8 else if q=8 then 2 else q) q<36:=(by decide); exact inv q hq) (fun q hq j hj hne=>by have inj : ∀ i,i<6 → ∀ j,j<6→i≠j→(fun q=>if q=2 then 8 else if q=8 then 2 else q) i≠(fun q=>if q=2 then 8 else if q=8 then 2 else q) j:=(by decide); exact inj q hq j hj hne) (by decide)
    ⟨⟨by omega,trivial,⟨_,rfl,Conv.row (by decide) (ruls_v _)⟩,.inl rfl,fun _=>by simp⟩,⟨by omega,trivial,⟨_,rfl,Conv.refl _⟩,.inl rfl,fun _=>by simp⟩,trivial⟩ (fun i hi=>by cases hi) (.tup [.opq 36,.opq 37]) ((36,.row 1 (atIn l ((i:Nat):Int)).length ((atIn l ((i:Nat):Int)).map fun x=>ii x) 3)::(37,.row 1 x.rs.length ((List.replicate x.rs.length 0).map fun x=>ii x) 3)::(9,.cells [ii ((i:Nat):Int),.opq 10,ii x.n.inp,.opq 11,.opq 12,.mp 17,.mp 18,.mp 19,.mp 20,.mp 21,.mp 22,.mp 23,.mp 24,.mp 25,.mp 26,.mp 27,.mp 28,.mp 29,.mp 30,.mp 31,.mp 32,.opq 13,.opq 14,.opq 15,.mp 16] 96)::(10,.row 8 x.n.N.length ((x.n.N.flatMap Prm.vals).map .v) 60)::(11,.row 4 x.n.S.length ((x.n.S.flatMap Syn.vals).map .v) 55)::(12,.row 2 x.n.N.length ((sgS x l i).st.flatMap Ste.cells) 139)::(13,.row 10 x.rs.length ((x.rs.flatMap Rul.vals).map .v) 36)::(14,.row 1 x.pl.length ((ints x.pl).map .v) 3)::(15,.row 4 x.pl.length ((sgS x l i).m.flatMap Mrk.cells) 84)::(16,.kmap true true x.tot)::(17,.kmap false false (sentE ((sgS x l i).sm 0)))::(18,.kmap false false (sentE ((sgS x l i).sm 1)))::(19,.kmap false false (sentE ((sgS x l i).sm 2)))::(20,.kmap false false (sentE ((sgS x l i).sm 3)))::(21,.kmap false false (sentE ((sgS x l i).sm 4)))::(22,.kmap false false (sentE ((sgS x l i).sm 5)))::(23,.kmap false false (sentE ((sgS x l i).sm 6)))::(24,.kmap false false (sentE ((sgS x l i).sm 7)))::(25,.kmap false false (sentE ((sgS x l i).sm 8)))::(26,.kmap false false (sentE ((sgS x l i).sm 9)))::(27,.kmap false false (sentE ((sgS x l i).sm 10)))::(28,.kmap false false (sentE ((sgS x l i).sm 11)))::(29,.kmap false false (sentE ((sgS x l i).sm 12)))::(30,.kmap false false (sentE ((sgS x l i).sm 13)))::(31,.kmap false false (sentE ((sgS x l i).sm 14)))::(32,.kmap false false (sentE ((sgS x l i).sm 15)))::(33,.cells [.opq 35,ii x.n.inp,.opq 34] 25)::(34,befO x l i)::(8,.row 10 x.rs.length (x.rs.flatMap Rul.cells) 36)::(6,.cells [.opq 0,ii x.n.inp,.opq 1,.opq 8,.opq 3,.opq 4,.v (.slice none 0 0),ii (KN:Int)] 45)::(4,.rwin 2 l.length (l.flatMap Evt.vals))::[]) 38 rfl rfl
    ⟨.inr ⟨6,_,rfl,rfl,(oren_fix (S:=fun _=>False) (fun i hi=>hi.elim) (o := .row 1 (atIn l ((i:Nat):Int)).length ((atIn l ((i:Nat):Int)).map fun x=>ii x) 3) (scs_i _ _)).symm,rfl⟩,.inr ⟨7,_,rfl,rfl,(oren_fix (S:=fun _=>False) (fun i hi=>hi.elim) (o := .row 1 x.rs.length ((List.replicate x.rs.length 0).map fun x=>ii x) 3) (scs_i _ _)).symm,rfl⟩,.inl ⟨rfl,by simp⟩,.inl ⟨rfl,by simp⟩,.inl ⟨rfl,by simp⟩,.inl ⟨rfl,by simp⟩,.inl ⟨rfl,by simp⟩,.inl ⟨rfl,by simp⟩,.inl ⟨rfl,by simp⟩,.inl ⟨rfl,by simp⟩,.inl ⟨rfl,by simp⟩,.inl ⟨rfl,by simp⟩,.inl ⟨rfl,by simp⟩,.inl ⟨rfl,by simp⟩,.inl ⟨rfl,by simp⟩,.inl ⟨rfl,by simp⟩,.inl ⟨rfl,by simp⟩,.inl ⟨rfl,by simp⟩,.inl ⟨rfl,by simp⟩,.inl ⟨rfl,by simp⟩,.inl ⟨rfl,by simp⟩,.inl ⟨rfl,by simp⟩,.inl ⟨rfl,by simp⟩,.inl ⟨rfl,by simp⟩,.inl ⟨rfl,by simp⟩,.inl ⟨rfl,by simp⟩,.inl ⟨rfl,by simp⟩,.inl ⟨rfl,by simp⟩,.inl ⟨rfl,by simp⟩,.inl ⟨rfl,by simp⟩,.inl ⟨rfl,by simp⟩,trivial⟩ ?_
   refine Run.of_wpK (hc w [] none (fun _ h=>by cases h)) 1000 _ ?_
   conv=>whnf
   rw [hs]
   have hck:stepChk x s (atIn l ((i:Nat):Int)) []=0:=by
    unfold stepChk
    rw [if_neg (by omega),hev.ins ⟨hx.inp0,hx.inp1⟩]; rfl
   have hail:=atIn_len l ((i:Nat):Int)
   have hstep:=Step_ok0 x s (atIn l ((i:Nat):Int)) hx hinv hck (by omega)
   obtain ⟨s2,hs2⟩ : ∃ s2,lN x s (atIn l ((i:Nat):Int)) (List.replicate x.rs.length 0)=s2:=⟨_,rfl⟩
   have hs3:sgS x l (i+1)=s2:=by rw [← hs2,← hs]; rfl
   rw [hs2] at hstep
   unfold lM lC at hstep
   rw [hst,show W (((i:Nat):Int)+1)=((i+1:Nat):Int) from wrap_succ (by omega)] at hstep
   obtain ⟨k,hk⟩ : ∃ k,slotN ((i:Nat):Int)=k:=⟨_,rfl⟩
   have hk16:k<16:=hk▸slotN_lt
   rw [hk] at hstep
   obtain ⟨S2,hS2⟩ : ∃ S2,s2.sm k=S2:=⟨_,rfl⟩
   have hssm : ∀ j,s2.sm j=if j=k then S2 else s.sm j:=fun j=>by
    have e : ∀ j,s2.sm j=if j=k then sendL (lB x s).2.2 (atIn l ((i:Nat):Int)) else s.sm j:=fun j=>by
     rw [← hs2,← hk,← hst]; rfl
    rw [← hS2,e j,e k,if_pos rfl]
   rw [hS2] at hstep
   have hol:=lOut_len x s
   obtain ⟨o,ho⟩ : ∃ o,lOut x s=o:=⟨_,rfl⟩
   rw [ho] at hstep hol
   have hisn : ∀ k:Nat,(k≠9∧k≠12∧k≠15) → ∀ q∈([0,3,6]:List Nat),(fun q=>if q<24 then 9+q else if q=24 then 36 else 1) q≠k:=by
    intro k hk q hq
    have hq2:q=0∨q=3∨q=6:=by simpa using hq
    rcases hq2 with rfl | rfl | rfl
    ·exact hk.1.symm
    ·exact hk.2.1.symm
    ·exact hk.2.2.symm
   refine Run.callR (vs:=[.ptr 0 0,.opq 24,.v (.slice none 0 0)]) (caps:=[]) (caps2:=[]) hstep (ent _ _ Try.func27 (by kernel_rfl) rfl) rfl rfl rfl rfl rfl rfl [.ptr 9 0,.opq 36,.v (.slice none 0 0)] rfl (fun q=>if q<24 then 9+q else if q=24 then 36 else 1) rfl (fun q hq=>by have inv : ∀ q,q<26→(fun q=>if q<24 then 9+q else if q=24 then 36 else 1) q<38:=(by decide); exact inv q hq) (fun q hq j hj hne=>by have inj : ∀ i,i<26 → ∀ j,j<26→i≠j→(fun q=>if q<24 then 9+q else if q=24 then 36 else 1) i≠(fun q=>if q<24 then 9+q else if q=24 then 36 else 1) j:=(by decide); exact inj q hq j hj hne) (by decide)
    ⟨⟨by omega,by simp [lcells,SObj.sc,SV.scs,SV.sc],⟨_,rfl,Conv.refl _⟩,.inr (by simp),fun h=>by cases h⟩,⟨by omega,trivial,⟨_,rfl,Conv.row (by decide) rfl⟩,.inl rfl,fun _=>by simp⟩,⟨by omega,trivial,⟨_,rfl,Conv.row (by decide) rfl⟩,.inl rfl,fun _=>by simp⟩,⟨by omega,scs_st _ _,⟨_,rfl,by rw [oren_fix (S:=fun _=>False) (fun i hi=>hi.elim) (o := .row 2 x.n.N.length (s.st.flatMap Ste.cells) 139) (scs_st _ _)]; exact Conv.refl _⟩,.inr (by simp),fun h=>by cases h⟩,⟨by omega,trivial,⟨_,rfl,Conv.row (by decide) rfl⟩,.inl rfl,fun _=>by simp⟩,⟨by omega,trivial,⟨_,rfl,Conv.row (by decide) rfl⟩,.inl rfl,fun _=>by simp⟩,⟨by omega,scs_marks _ _,⟨_,rfl,by rw [oren_fix (S:=fun _=>False) (fun i hi=>hi.elim) (o := .row 4 x.pl.length (s.m.flatMap Mrk.cells) 84) (scs_marks _ _)]; exact Conv.refl _⟩,.inr (by simp),fun h=>by cases h⟩,⟨by omega,trivial,⟨_,rfl,Conv.map⟩,.inl rfl,fun _=>by simp⟩,⟨by omega,trivial,⟨_,rfl,Conv.map⟩,.inl rfl,fun _=>by simp⟩,⟨by omega,trivial,⟨_,rfl,Conv.map⟩,.inl rfl,fun _=>by simp⟩,⟨by omega,trivial,⟨_,rfl,Conv.map⟩,.inl rfl,fun _=>by simp⟩,⟨by omega,trivial,⟨_,rfl,Conv.map⟩,.inl rfl,fun _=>by simp⟩,⟨by omega,trivial,⟨_,rfl,Conv.map⟩,.inl rfl,fun _=>by simp⟩,⟨by omega,trivial,⟨_,rfl,Conv.map⟩,.inl rfl,fun _=>by simp⟩,⟨by omega,trivial,⟨_,rfl,Conv.map⟩,.inl rfl,fun _=>by simp⟩,⟨by omega,trivial,⟨_,rfl,Conv.map⟩,.inl rfl,fun _=>by simp⟩,⟨by omega,trivial,⟨_,rfl,Conv.map⟩,.inl rfl,fun _=>by simp⟩,⟨by omega,trivial,⟨_,rfl,Conv.map⟩,.inl rfl,fun _=>by simp⟩,⟨by omega,trivial,⟨_,rfl,Conv.map⟩,.inl rfl,fun _=>by simp⟩,⟨by omega,trivial,⟨_,rfl,Conv.map⟩,.inl rfl,fun _=>by simp⟩,⟨by omega,trivial,⟨_,rfl,Conv.map⟩,.inl rfl,fun _=>by simp⟩,⟨by omega,trivial,⟨_,rfl,Conv.map⟩,.inl rfl,fun _=>by simp⟩,⟨by omega,trivial,⟨_,rfl,Conv.map⟩,.inl rfl,fun _=>by simp⟩,⟨by omega,trivial,⟨_,rfl,Conv.map⟩,.inl rfl,fun _=>by simp⟩,⟨by omega,trivial,⟨_,rfl,Conv.row (by decide) (ints_iv _)⟩,.inl rfl,fun _=>by simp⟩,trivial⟩ (fun q hq=>by
     have hq2:q=0∨q=3∨q=6:=by simpa using hq
     rcases hq2 with rfl | rfl | rfl <;> exact ⟨by omega,_,rfl⟩) (.tup [.opq 39,ii 0]) ((38,.kmap false true (sentE S2))::(39,.row 1 o.length (o.map fun x=>ii x) 3)::(9,(SObj.cells (lcells (ii ((i+1:Nat):Int)) x.n.inp (fun j => .mp (if j=k then 26 else 8+j)) (.mp 7)) 96).ren (shR (fun q=>if q<24 then 9+q else if q=24 then 36 else 1) 26 38))::(10,.row 8 x.n.N.length ((x.n.N.flatMap Prm.vals).map .v) 60)::(11,.row 4 x.n.S.length ((x.n.S.flatMap Syn.vals).map .v) 55)::(12,.row 2 x.n.N.length (s2.st.flatMap Ste.cells) 139)::(13,.row 10 x.rs.length ((x.rs.flatMap Rul.vals).map .v) 36)::(14,.row 1 x.pl.length ((ints x.pl).map .v) 3)::(15,.row 4 x.pl.length (s2.m.flatMap Mrk.cells) 84)::(16,.kmap true true x.tot)::(17,.kmap false false (sentE (s.sm 0)))::(18,.kmap false false (sentE (s.sm 1)))::(19,.kmap false false (sentE (s.sm 2)))::(20,.kmap false false (sentE (s.sm 3)))::(21,.kmap false false (sentE (s.sm 4)))::(22,.kmap false false (sentE (s.sm 5)))::(23,.kmap false false (sentE (s.sm 6)))::(24,.kmap false false (sentE (s.sm 7)))::(25,.kmap false false (sentE (s.sm 8)))::(26,.kmap false false (sentE (s.sm 9)))::(27,.kmap false false (sentE (s.sm 10)))::(28,.kmap false false (sentE (s.sm 11)))::(29,.kmap false false (sentE (s.sm 12)))::(30,.kmap false false (sentE (s.sm 13)))::(31,.kmap false false (sentE (s.sm 14)))::(32,.kmap false false (sentE (s.sm 15)))::(36,.row 1 (atIn l ((i:Nat):Int)).length ((atIn l ((i:Nat):Int)).map fun x=>ii x) 3)::(33,.cells [.opq 35,ii x.n.inp,.opq 34] 25)::(34,befO x l i)::(8,.row 10 x.rs.length (x.rs.flatMap Rul.cells) 36)::(6,.cells [.opq 0,ii x.n.inp,.opq 1,.opq 8,.opq 3,.opq 4,.v (.slice none 0 0),ii (KN:Int)] 45)::(4,.rwin 2 l.length (l.flatMap Evt.vals))::[]) 40 rfl rfl
    ⟨.inr ⟨26,_,rfl,rfl,rfl,rfl⟩,.inr ⟨27,_,rfl,rfl,(oren_fix (S:=fun _=>False) (fun i hi=>hi.elim) (o := .row 1 o.length (o.map fun x=>ii x) 3) (scs_i _ _)).symm,rfl⟩,.inr ⟨0,_,rfl,rfl,rfl,rfl⟩,.inl ⟨rfl,hisn 10 (by decide)⟩,.inl ⟨rfl,hisn 11 (by decide)⟩,.inr ⟨3,_,rfl,rfl,(oren_fix (S:=fun _=>False) (fun i hi=>hi.elim) (o := .row 2 x.n.N.length (s2.st.flatMap Ste.cells) 139) (scs_st _ _)).symm,rfl⟩,.inl ⟨rfl,hisn 13 (by decide)⟩,.inl ⟨rfl,hisn 14 (by decide)⟩,.inr ⟨6,_,rfl,rfl,(oren_fix (S:=fun _=>False) (fun i hi=>hi.elim) (o := .row 4 x.pl.length (s2.m.flatMap Mrk.cells) 84) (scs_marks _ _)).symm,rfl⟩,.inl ⟨rfl,hisn 16 (by decide)⟩,.inl ⟨rfl,hisn 17 (by decide)⟩,.inl ⟨rfl,hisn 18 (by decide)⟩,.inl ⟨rfl,hisn 19 (by decide)⟩,.inl ⟨rfl,hisn 20 (by decide)⟩,.inl ⟨rfl,hisn 21 (by decide)⟩,.inl ⟨rfl,hisn 22 (by decide)⟩,.inl ⟨rfl,hisn 23 (by decide)⟩,.inl ⟨rfl,hisn 24 (by decide)⟩,.inl ⟨rfl,hisn 25 (by decide)⟩,.inl ⟨rfl,hisn 26 (by decide)⟩,.inl ⟨rfl,hisn 27 (by decide)⟩,.inl ⟨rfl,hisn 28 (by decide)⟩,.inl ⟨rfl,hisn 29 (by decide)⟩,.inl ⟨rfl,hisn 30 (by decide)⟩,.inl ⟨rfl,hisn 31 (by decide)⟩,.inl ⟨rfl,hisn 32 (by decide)⟩,.inl ⟨rfl,hisn 36 (by decide)⟩,.inl ⟨rfl,hisn 33 (by decide)⟩,.inl ⟨rfl,hisn 34 (by decide)⟩,.inl ⟨rfl,hisn 8 (by decide)⟩,.inl ⟨rfl,hisn 6 (by decide)⟩,.inl ⟨rfl,hisn 4 (by decide)⟩,trivial⟩ ?_
   refine Run.weak (M':=((38,.kmap false false (sentE S2))::(39,.row 1 o.length (o.map fun x=>ii x) 3)::(9,(SObj.cells (lcells (ii ((i+1:Nat):Int)) x.n.inp (fun j => .mp (if j=k then 26 else 8+j)) (.mp 7)) 96).ren (shR (fun q=>if q<24 then 9+q else if q=24 then 36 else 1) 26 38))::(10,.row 8 x.n.N.length ((x.n.N.flatMap Prm.vals).map .v) 60)::(11,.row 4 x.n.S.length ((x.n.S.flatMap Syn.vals).map .v) 55)::(12,.row 2 x.n.N.length (s2.st.flatMap Ste.cells) 139)::(13,.row 10 x.rs.length ((x.rs.flatMap Rul.vals).map .v) 36)::(14,.row 1 x.pl.length ((ints x.pl).map .v) 3)::(15,.row 4 x.pl.length (s2.m.flatMap Mrk.cells) 84)::(16,.kmap true true x.tot)::(17,.kmap false false (sentE (s.sm 0)))::(18,.kmap false false (sentE (s.sm 1)))::(19,.kmap false false (sentE (s.sm 2)))::(20,.kmap false false (sentE (s.sm 3)))::(21,.kmap false false (sentE (s.sm 4)))::(22,.kmap false false (sentE (s.sm 5)))::(23,.kmap false false (sentE (s.sm 6)))::(24,.kmap false false (sentE (s.sm 7)))::(25,.kmap false false (sentE (s.sm 8)))::(26,.kmap false false (sentE (s.sm 9)))::(27,.kmap false false (sentE (s.sm 10)))::(28,.kmap false false (sentE (s.sm 11)))::(29,.kmap false false (sentE (s.sm 12)))::(30,.kmap false false (sentE (s.sm 13)))::(31,.kmap false false (sentE (s.sm 14)))::(32,.kmap false false (sentE (s.sm 15)))::(36,.row 1 (atIn l ((i:Nat):Int)).length ((atIn l ((i:Nat):Int)).map fun x=>ii x) 3)::(33,.cells [.opq 35,ii x.n.inp,.opq 34] 25)::(34,befO x l i)::(8,.row 10 x.rs.length (x.rs.flatMap Rul.cells) 36)::(6,.cells [.opq 0,ii x.n.inp,.opq 1,.opq 8,.opq 3,.opq 4,.v (.slice none 0 0),ii (KN:Int)] 45)::(4,.rwin 2 l.length (l.flatMap Evt.vals))::[])) ⟨⟨_,rfl,.inr ⟨_,_,rfl,rfl⟩⟩,⟨_,rfl,.inl rfl⟩,⟨_,rfl,.inl rfl⟩,⟨_,rfl,.inl rfl⟩,⟨_,rfl,.inl rfl⟩,⟨_,rfl,.inl rfl⟩,⟨_,rfl,.inl rfl⟩,⟨_,rfl,.inl rfl⟩,⟨_,rfl,.inl rfl⟩,⟨_,rfl,.inl rfl⟩,⟨_,rfl,.inl rfl⟩,⟨_,rfl,.inl rfl⟩,⟨_,rfl,.inl rfl⟩,⟨_,rfl,.inl rfl⟩,⟨_,rfl,.inl rfl⟩,⟨_,rfl,.inl rfl⟩,⟨_,rfl,.inl rfl⟩,⟨_,rfl,.inl rfl⟩,⟨_,rfl,.inl rfl⟩,⟨_,rfl,.inl rfl⟩,⟨_,rfl,.inl rfl⟩,⟨_,rfl,.inl rfl⟩,⟨_,rfl,.inl rfl⟩,⟨_,rfl,.inl rfl⟩,⟨_,rfl,.inl rfl⟩,⟨_,rfl,.inl rfl⟩,⟨_,rfl,.inl rfl⟩,⟨_,rfl,.inl rfl⟩,⟨_,rfl,.inl rfl⟩,⟨_,rfl,.inl rfl⟩,⟨_,rfl,.inl rfl⟩,⟨_,rfl,.inl rfl⟩,trivial⟩ ?_
   refine Run.trimQ (T':=[(1,.v (.bool up)),(2,.ptr 6 0),(6,.ptr 9 0),(8,.ptr 33 0),(9,ii ((i:Nat):Int)),(10,.opq 36),(89,.tup [.opq 39,ii 0])]) (M':=((39,.row 1 o.length (o.map fun x=>ii x) 3)::(9,.cells [ii ((i+1:Nat):Int),.opq 10,ii x.n.inp,.opq 11,.opq 12,.mp 17,.mp 18,.mp 19,.mp 20,.mp 21,.mp 22,.mp 23,.mp 24,.mp 25,.mp 26,.mp 27,.mp 28,.mp 29,.mp 30,.mp 31,.mp 32,.opq 13,.opq 14,.opq 15,.mp 16] 96)::(10,.row 8 x.n.N.length ((x.n.N.flatMap Prm.vals).map .v) 60)::(11,.row 4 x.n.S.length ((x.n.S.flatMap Syn.vals).map .v) 55)::(12,.row 2 x.n.N.length (s2.st.flatMap Ste.cells) 139)::(13,.row 10 x.rs.length ((x.rs.flatMap Rul.vals).map .v) 36)::(14,.row 1 x.pl.length ((ints x.pl).map .v) 3)::(15,.row 4 x.pl.length (s2.m.flatMap Mrk.cells) 84)::(16,.kmap true true x.tot)::(17,.kmap false false (sentE (s2.sm 0)))::(18,.kmap false false (sentE (s2.sm 1)))::(19,.kmap false false (sentE (s2.sm 2)))::(20,.kmap false false (sentE (s2.sm 3)))::(21,.kmap false false (sentE (s2.sm 4)))::(22,.kmap false false (sentE (s2.sm 5)))::(23,.kmap false false (sentE (s2.sm 6)))::(24,.kmap false false (sentE (s2.sm 7)))::(25,.kmap false false (sentE (s2.sm 8)))::(26,.kmap false false (sentE (s2.sm 9)))::(27,.kmap false false (sentE (s2.sm 10)))::(28,.kmap false false (sentE (s2.sm 11)))::(29,.kmap false false (sentE (s2.sm 12)))::(30,.kmap false false (sentE (s2.sm 13)))::(31,.kmap false false (sentE (s2.sm 14)))::(32,.kmap false false (sentE (s2.sm 15)))::(36,.row 1 (atIn l ((i:Nat):Int)).length ((atIn l ((i:Nat):Int)).map fun x=>ii x) 3)::(33,.cells [.opq 35,ii x.n.inp,.opq 34] 25)::(34,befO x l i)::(8,.row 10 x.rs.length (x.rs.flatMap Rul.cells) 36)::(6,.cells [.opq 0,ii x.n.inp,.opq 1,.opq 8,.opq 3,.opq 4,.v (.slice none 0 0),ii (KN:Int)] 45)::(4,.rwin 2 l.length (l.flatMap Evt.vals))::[])) (rq [(17+k,38),(38,17+k)]) 40 ?_ ?_ ?_ ?_ ?_
   ·intro i hi j hj hne he
    have inv : ∀ i,i<40→rq [(17+k,38),(38,17+k)] (rq [(17+k,38),(38,17+k)] i)=i:=by rcases lt16 hk16 with rfl | rfl | rfl | rfl | rfl | rfl | rfl | rfl | rfl | rfl | rfl | rfl | rfl | rfl | rfl | rfl <;> decide
    exact hne (by rw [← inv i hi,he,inv j hj])
   ·rcases lt16 hk16 with rfl | rfl | rfl | rfl | rfl | rfl | rfl | rfl | rfl | rfl | rfl | rfl | rfl | rfl | rfl | rfl <;> exact ⟨⟨rfl,trivial⟩,⟨rfl,(show 6<40 by decide)⟩,⟨rfl,(show 9<40 by decide)⟩,⟨rfl,(show 33<40 by decide)⟩,⟨rfl,trivial⟩,⟨rfl,(show 36<40 by decide)⟩,⟨rfl,(show 39<40 by decide),trivial,trivial⟩,trivial⟩
   ·rcases lt16 hk16 with rfl | rfl | rfl | rfl | rfl | rfl | rfl | rfl | rfl | rfl | rfl | rfl | rfl | rfl | rfl | rfl <;> exact ⟨⟨congrArg some (oren_fix (S:=fun _=>False) (fun i hi=>hi.elim) (o := .row 1 o.length (o.map fun x=>ii x) 3) (scs_i _ _)).symm,by omega,scs_i _ _⟩,⟨rfl,by omega,by simp [SObj.sc,SV.scs,SV.sc]⟩,⟨congrArg some (oren_fix (S:=fun _=>False) (fun i hi=>hi.elim) (o := .row 8 x.n.N.length ((x.n.N.flatMap Prm.vals).map .v) 60) (scs_v _ _)).symm,by omega,scs_v _ _⟩,⟨congrArg some (oren_fix (S:=fun _=>False) (fun i hi=>hi.elim) (o := .row 4 x.n.S.length ((x.n.S.flatMap Syn.vals).map .v) 55) (scs_v _ _)).symm,by omega,scs_v _ _⟩,⟨congrArg some (oren_fix (S:=fun _=>False) (fun i hi=>hi.elim) (o := .row 2 x.n.N.length (s2.st.flatMap Ste.cells) 139) (scs_st _ _)).symm,by omega,scs_st _ _⟩,⟨congrArg some (oren_fix (S:=fun _=>False) (fun i hi=>hi.elim) (o := .row 10 x.rs.length ((x.rs.flatMap Rul.vals).map .v) 36) (scs_v _ _)).symm,by omega,scs_v _ _⟩,⟨congrArg some (oren_fix (S:=fun _=>False) (fun i hi=>hi.elim) (o := .row 1 x.pl.length ((ints x.pl).map .v) 3) (scs_v _ _)).symm,by omega,scs_v _ _⟩,⟨congrArg some (oren_fix (S:=fun _=>False) (fun i hi=>hi.elim) (o := .row 4 x.pl.length (s2.m.flatMap Mrk.cells) 84) (scs_marks _ _)).symm,by omega,scs_marks _ _⟩,⟨rfl,by omega,trivial⟩,⟨by rw [hssm]; rfl,by omega,trivial⟩,⟨by rw [hssm]; rfl,by omega,trivial⟩,⟨by rw [hssm]; rfl,by omega,trivial⟩,⟨by rw [hssm]; rfl,by omega,trivial⟩,⟨by rw [hssm]; rfl,by omega,trivial⟩,⟨by rw [hssm]; rfl,by omega,trivial⟩,⟨by rw [hssm]; rfl,by omega,trivial⟩,⟨by rw [hssm]; rfl,by omega,trivial⟩,⟨by rw [hssm]; rfl,by omega,trivial⟩,⟨by rw [hssm]; rfl,by omega,trivial⟩,⟨by rw [hssm]; rfl,by omega,trivial⟩,⟨by rw [hssm]; rfl,by omega,trivial⟩,⟨by rw [hssm]; rfl,by omega,trivial⟩,⟨by rw [hssm]; rfl,by omega,trivial⟩,⟨by rw [hssm]; rfl,by omega,trivial⟩,⟨by rw [hssm]; rfl,by omega,trivial⟩,⟨congrArg some (oren_fix (S:=fun _=>False) (fun i hi=>hi.elim) (o := .row 1 (atIn l ((i:Nat):Int)).length ((atIn l ((i:Nat):Int)).map fun x=>ii x) 3) (scs_i _ _)).symm,by omega,scs_i _ _⟩,⟨rfl,by omega,by simp [SObj.sc,SV.scs,SV.sc]⟩,⟨congrArg some ((befO_like x l i).ren _).symm,by omega,(befO_like x l i).sc _⟩,⟨congrArg some (oren_fix (S:=fun _=>False) (fun i hi=>hi.elim) (o := .row 10 x.rs.length (x.rs.flatMap Rul.cells) 36) (scs_ruls _ _)).symm,by omega,scs_ruls _ _⟩,⟨rfl,by omega,by simp [SObj.sc,SV.scs,SV.sc]⟩,⟨rfl,by omega,trivial⟩,trivial⟩
   ·intro p hp; cases hp
   refine Run.of_wpK (hc w [] none (fun _ h=>by cases h)) 1000 _ ?_
   conv=>whnf
   have hinv2:LInv x s2:=by rw [← hs3]; exact sgS_inv hx l (i+1) (by omega)
   have hmK:s2.m.length=x.pl.length:=by rw [hinv2.lm,hx4]
   have hnet:=Net_spec (ii ((i+1:Nat):Int)) x.n.inp (fun k => .mp (8+k)) x.n.N x.n.S s2.st s2.m (by simp [lcells,SV.scs,SV.sc]) (by rw [hmK,hx4]) hx2 hx1 hxN
   unfold nowM at hnet
   rw [hmK] at hnet
   refine Run.callR (vs:=[.ptr 0 0]) (caps:=[]) (caps2:=[]) hnet (ent _ _ Try.func28 (by kernel_rfl) rfl) rfl rfl rfl rfl rfl rfl [.ptr 9 0] rfl (fun q=>9+q) rfl (fun q hq=>by have inv : ∀ q,q<24→(fun q=>9+q) q<40:=(by decide); exact inv q hq) (fun q hq j hj hne=>by have inj : ∀ i,i<24 → ∀ j,j<24→i≠j→(fun q=>9+q) i≠(fun q=>9+q) j:=(by decide); exact inj q hq j hj hne) (by decide)
    ⟨⟨by omega,by simp [lcells,SObj.sc,SV.scs,SV.sc],⟨_,rfl,Conv.refl _⟩,.inr (by simp),fun h=>by cases h⟩,⟨by omega,trivial,⟨_,rfl,Conv.row (by decide) rfl⟩,.inl rfl,fun _=>by simp⟩,⟨by omega,trivial,⟨_,rfl,Conv.row (by decide) rfl⟩,.inl rfl,fun _=>by simp⟩,⟨by omega,trivial,⟨_,rfl,Conv.row (by decide) (marks_v _)⟩,.inl rfl,fun _=>by simp⟩,⟨by omega,trivial,⟨_,rfl,Conv.row (by decide) (steV _)⟩,.inl rfl,fun _=>by simp⟩,trivial⟩ (fun q hq=>by simp at hq; subst hq; exact ⟨by omega,_,rfl⟩) (.tup [.agg [.opq 40,ii x.n.inp,.opq 41],ii 0]) ((40,.row 8 x.n.N.length ((x.n.N.flatMap Prm.vals).map .v) 60)::(41,.row 4 x.n.S.length ((nowL x.n.S s2.m).flatMap Syn.cells) 55)::(9,.cells [ii ((i+1:Nat):Int),.opq 10,ii x.n.inp,.opq 11,.opq 12,.mp 17,.mp 18,.mp 19,.mp 20,.mp 21,.mp 22,.mp 23,.mp 24,.mp 25,.mp 26,.mp 27,.mp 28,.mp 29,.mp 30,.mp 31,.mp 32,.opq 13,.opq 14,.opq 15,.mp 16] 96)::(10,.row 8 x.n.N.length ((x.n.N.flatMap Prm.vals).map .v) 60)::(11,.row 4 x.n.S.length ((x.n.S.flatMap Syn.vals).map .v) 55)::(12,.row 2 x.n.N.length (s2.st.flatMap Ste.cells) 139)::(13,.row 10 x.rs.length ((x.rs.flatMap Rul.vals).map .v) 36)::(14,.row 1 x.pl.length ((ints x.pl).map .v) 3)::(15,.row 4 x.pl.length (s2.m.flatMap Mrk.cells) 84)::(16,.kmap true true x.tot)::(17,.kmap false false (sentE (s2.sm 0)))::(18,.kmap false false (sentE (s2.sm 1)))::(19,.kmap false false (sentE (s2.sm 2)))::(20,.kmap false false (sentE (s2.sm 3)))::(21,.kmap false false (sentE (s2.sm 4)))::(22,.kmap false false (sentE (s2.sm 5)))::(23,.kmap false false (sentE (s2.sm 6)))::(24,.kmap false false (sentE (s2.sm 7)))::(25,.kmap false false (sentE (s2.sm 8)))::(26,.kmap false false (sentE (s2.sm 9)))::(27,.kmap false false (sentE (s2.sm 10)))::(28,.kmap false false (sentE (s2.sm 11)))::(29,.kmap false false (sentE (s2.sm 12)))::(30,.kmap false false (sentE (s2.sm 13)))::(31,.kmap false false (sentE (s2.sm 14)))::(32,.kmap false false (sentE (s2.sm 15)))::(39,.row 1 o.length (o.map fun x=>ii x) 3)::(36,.row 1 (atIn l ((i:Nat):Int)).length ((atIn l ((i:Nat):Int)).map fun x=>ii x) 3)::(33,.cells [.opq 35,ii x.n.inp,.opq 34] 25)::(34,befO x l i)::(8,.row 10 x.rs.length (x.rs.flatMap Rul.cells) 36)::(6,.cells [.opq 0,ii x.n.inp,.opq 1,.opq 8,.opq 3,.opq 4,.v (.slice none 0 0),ii (KN:Int)] 45)::(4,.rwin 2 l.length (l.flatMap Evt.vals))::[]) 42 rfl rfl
    ⟨.inr ⟨24,_,rfl,rfl,(oren_fix (S:=fun _=>False) (fun i hi=>hi.elim) (o := .row 8 x.n.N.length ((x.n.N.flatMap Prm.vals).map .v) 60) (scs_v _ _)).symm,rfl⟩,.inr ⟨25,_,rfl,rfl,(oren_fix (S:=fun _=>False) (fun i hi=>hi.elim) (o := .row 4 x.n.S.length ((nowL x.n.S s2.m).flatMap Syn.cells) 55) (scs_syns _ _)).symm,rfl⟩,.inr ⟨0,_,rfl,rfl,rfl,rfl⟩,.inl ⟨rfl,fun q hq=>by simp at hq; subst hq; exact (show 9≠10 by decide)⟩,.inl ⟨rfl,fun q hq=>by simp at hq; subst hq; exact (show 9≠11 by decide)⟩,.inl ⟨rfl,fun q hq=>by simp at hq; subst hq; exact (show 9≠12 by decide)⟩,.inl ⟨rfl,fun q hq=>by simp at hq; subst hq; exact (show 9≠13 by decide)⟩,.inl ⟨rfl,fun q hq=>by simp at hq; subst hq; exact (show 9≠14 by decide)⟩,.inl ⟨rfl,fun q hq=>by simp at hq; subst hq; exact (show 9≠15 by decide)⟩,.inl ⟨rfl,fun q hq=>by simp at hq; subst hq; exact (show 9≠16 by decide)⟩,.inl ⟨rfl,fun q hq=>by simp at hq; subst hq; exact (show 9≠17 by decide)⟩,.inl ⟨rfl,fun q hq=>by simp at hq; subst hq; exact (show 9≠18 by decide)⟩,.inl ⟨rfl,fun q hq=>by simp at hq; subst hq; exact (show 9≠19 by decide)⟩,.inl ⟨rfl,fun q hq=>by simp at hq; subst hq; exact (show 9≠20 by decide)⟩,.inl ⟨rfl,fun q hq=>by simp at hq; subst hq; exact (show 9≠21 by decide)⟩,.inl ⟨rfl,fun q hq=>by simp at hq; subst hq; exact (show 9≠22 by decide)⟩,.inl ⟨rfl,fun q hq=>by simp at hq; subst hq; exact (show 9≠23 by decide)⟩,.inl ⟨rfl,fun q hq=>by simp at hq; subst hq; exact (show 9≠24 by decide)⟩,.inl ⟨rfl,fun q hq=>by simp at hq; subst hq; exact (show 9≠25 by decide)⟩,.inl ⟨rfl,fun q hq=>by simp at hq; subst hq; exact (show 9≠26 by decide)⟩,.inl ⟨rfl,fun q hq=>by simp at hq; subst hq; exact (show 9≠27 by decide)⟩,.inl ⟨rfl,fun q hq=>by simp at hq; subst hq; exact (show 9≠28 by decide)⟩,.inl ⟨rfl,fun q hq=>by simp at hq; subst hq; exact (show 9≠29 by decide)⟩,.inl ⟨rfl,fun q hq=>by simp at hq; subst hq; exact (show 9≠30 by decide)⟩,.inl ⟨rfl,fun q hq=>by simp at hq; subst hq; exact (show 9≠31 by decide)⟩,.inl ⟨rfl,fun q hq=>by simp at hq; subst hq; exact (show 9≠32 by decide)⟩,.inl ⟨rfl,fun q hq=>by simp at hq; subst hq; exact (show 9≠39 by decide)⟩,.inl ⟨rfl,fun q hq=>by simp at hq; subst hq; exact (show 9≠36 by decide)⟩,.inl ⟨rfl,fun q hq=>by simp at hq; subst hq; exact (show 9≠33 by decide)⟩,.inl ⟨rfl,fun q hq=>by simp at hq; subst hq; exact (show 9≠34 by decide)⟩,.inl ⟨rfl,fun q hq=>by simp at hq; subst hq; exact (show 9≠8 by decide)⟩,.inl ⟨rfl,fun q hq=>by simp at hq; subst hq; exact (show 9≠6 by decide)⟩,.inl ⟨rfl,fun q hq=>by simp at hq; subst hq; exact (show 9≠4 by decide)⟩,trivial⟩ ?_
   refine Run.of_wpK (hc w [] none (fun _ h=>by cases h)) 1000 _ ?_
   conv=>whnf
   rw [opF_lenA (befO_like x l i) rfl rfl rfl rfl rfl rfl]
   conv=>whnf
   rw [show ((x.n.S.length:Int) != (x.n.S.length:Int))=false by simp]
   conv=>whnf
   refine Run.trim (T':=[(1,.v (.bool up)),(2,.ptr 6 0),(6,.ptr 9 0),(8,.ptr 33 0),(9,ii ((i:Nat):Int)),(14,.ptr 42 0),(16,ii ((0:Nat):Int))]) (M':=((42,.cells [.opq 40,ii x.n.inp,.opq 41] 25)::(41,.row 4 x.n.S.length ((nowL x.n.S s2.m).flatMap Syn.cells) 55)::(40,.row 8 x.n.N.length ((x.n.N.flatMap Prm.vals).map .v) 60)::(9,.cells [ii ((i+1:Nat):Int),.opq 10,ii x.n.inp,.opq 11,.opq 12,.mp 17,.mp 18,.mp 19,.mp 20,.mp 21,.mp 22,.mp 23,.mp 24,.mp 25,.mp 26,.mp 27,.mp 28,.mp 29,.mp 30,.mp 31,.mp 32,.opq 13,.opq 14,.opq 15,.mp 16] 96)::(10,.row 8 x.n.N.length ((x.n.N.flatMap Prm.vals).map .v) 60)::(11,.row 4 x.n.S.length ((x.n.S.flatMap Syn.vals).map .v) 55)::(12,.row 2 x.n.N.length (s2.st.flatMap Ste.cells) 139)::(13,.row 10 x.rs.length ((x.rs.flatMap Rul.vals).map .v) 36)::(14,.row 1 x.pl.length ((ints x.pl).map .v) 3)::(15,.row 4 x.pl.length (s2.m.flatMap Mrk.cells) 84)::(16,.kmap true true x.tot)::(17,.kmap false false (sentE (s2.sm 0)))::(18,.kmap false false (sentE (s2.sm 1)))::(19,.kmap false false (sentE (s2.sm 2)))::(20,.kmap false false (sentE (s2.sm 3)))::(21,.kmap false false (sentE (s2.sm 4)))::(22,.kmap false false (sentE (s2.sm 5)))::(23,.kmap false false (sentE (s2.sm 6)))::(24,.kmap false false (sentE (s2.sm 7)))::(25,.kmap false false (sentE (s2.sm 8)))::(26,.kmap false false (sentE (s2.sm 9)))::(27,.kmap false false (sentE (s2.sm 10)))::(28,.kmap false false (sentE (s2.sm 11)))::(29,.kmap false false (sentE (s2.sm 12)))::(30,.kmap false false (sentE (s2.sm 13)))::(31,.kmap false false (sentE (s2.sm 14)))::(32,.kmap false false (sentE (s2.sm 15)))::(33,.cells [.opq 35,ii x.n.inp,.opq 34] 25)::(34,befO x l i)::(8,.row 10 x.rs.length (x.rs.flatMap Rul.cells) 36)::(6,.cells [.opq 0,ii x.n.inp,.opq 1,.opq 8,.opq 3,.opq 4,.v (.slice none 0 0),ii (KN:Int)] 45)::(4,.rwin 2 l.length (l.flatMap Evt.vals))::[])) 43 ⟨⟨rfl,trivial⟩,⟨rfl,(show 6<43 by decide)⟩,⟨rfl,(show 9<43 by decide)⟩,⟨rfl,(show 33<43 by decide)⟩,⟨rfl,trivial⟩,⟨rfl,(show 42<43 by decide)⟩,⟨rfl,trivial⟩,trivial⟩ ⟨⟨rfl,by omega,by simp [SObj.sc,SV.scs,SV.sc]⟩,⟨rfl,by omega,scs_syns _ _⟩,⟨rfl,by omega,scs_v _ _⟩,⟨rfl,by omega,by simp [SObj.sc,SV.scs,SV.sc]⟩,⟨rfl,by omega,scs_v _ _⟩,⟨rfl,by omega,scs_v _ _⟩,⟨rfl,by omega,scs_st _ _⟩,⟨rfl,by omega,scs_v _ _⟩,⟨rfl,by omega,scs_v _ _⟩,⟨rfl,by omega,scs_marks _ _⟩,⟨rfl,by omega,trivial⟩,⟨rfl,by omega,trivial⟩,⟨rfl,by omega,trivial⟩,⟨rfl,by omega,trivial⟩,⟨rfl,by omega,trivial⟩,⟨rfl,by omega,trivial⟩,⟨rfl,by omega,trivial⟩,⟨rfl,by omega,trivial⟩,⟨rfl,by omega,trivial⟩,⟨rfl,by omega,trivial⟩,⟨rfl,by omega,trivial⟩,⟨rfl,by omega,trivial⟩,⟨rfl,by omega,trivial⟩,⟨rfl,by omega,trivial⟩,⟨rfl,by omega,trivial⟩,⟨rfl,by omega,trivial⟩,⟨rfl,by omega,trivial⟩,⟨rfl,by omega,by simp [SObj.sc,SV.scs,SV.sc]⟩,⟨rfl,by omega,(befO_like x l i).sc _⟩,⟨rfl,by omega,scs_ruls _ _⟩,⟨rfl,by omega,by simp [SObj.sc,SV.scs,SV.sc]⟩,⟨rfl,by omega,trivial⟩,trivial⟩ (fun p hp=>by cases hp) ?_
   refine Run.upToJ (T:=fun j=>[(1,.v (.bool up)),(2,.ptr 6 0),(6,.ptr 9 0),(8,.ptr 33 0),(9,ii ((i:Nat):Int)),(14,.ptr 42 0),(16,ii ((j:Nat):Int))]) (M:=fun _=>((42,.cells [.opq 40,ii x.n.inp,.opq 41] 25)::(41,.row 4 x.n.S.length ((nowL x.n.S s2.m).flatMap Syn.cells) 55)::(40,.row 8 x.n.N.length ((x.n.N.flatMap Prm.vals).map .v) 60)::(9,.cells [ii ((i+1:Nat):Int),.opq 10,ii x.n.inp,.opq 11,.opq 12,.mp 17,.mp 18,.mp 19,.mp 20,.mp 21,.mp 22,.mp 23,.mp 24,.mp 25,.mp 26,.mp 27,.mp 28,.mp 29,.mp 30,.mp 31,.mp 32,.opq 13,.opq 14,.opq 15,.mp 16] 96)::(10,.row 8 x.n.N.length ((x.n.N.flatMap Prm.vals).map .v) 60)::(11,.row 4 x.n.S.length ((x.n.S.flatMap Syn.vals).map .v) 55)::(12,.row 2 x.n.N.length (s2.st.flatMap Ste.cells) 139)::(13,.row 10 x.rs.length ((x.rs.flatMap Rul.vals).map .v) 36)::(14,.row 1 x.pl.length ((ints x.pl).map .v) 3)::(15,.row 4 x.pl.length (s2.m.flatMap Mrk.cells) 84)::(16,.kmap true true x.tot)::(17,.kmap false false (sentE (s2.sm 0)))::(18,.kmap false false (sentE (s2.sm 1)))::(19,.kmap false false (sentE (s2.sm 2)))::(20,.kmap false false (sentE (s2.sm 3)))::(21,.kmap false false (sentE (s2.sm 4)))::(22,.kmap false false (sentE (s2.sm 5)))::(23,.kmap false false (sentE (s2.sm 6)))::(24,.kmap false false (sentE (s2.sm 7)))::(25,.kmap false false (sentE (s2.sm 8)))::(26,.kmap false false (sentE (s2.sm 9)))::(27,.kmap false false (sentE (s2.sm 10)))::(28,.kmap false false (sentE (s2.sm 11)))::(29,.kmap false false (sentE (s2.sm 12)))::(30,.kmap false false (sentE (s2.sm 13)))::(31,.kmap false false (sentE (s2.sm 14)))::(32,.kmap false false (sentE (s2.sm 15)))::(33,.cells [.opq 35,ii x.n.inp,.opq 34] 25)::(34,befO x l i)::(8,.row 10 x.rs.length (x.rs.flatMap Rul.cells) 36)::(6,.cells [.opq 0,ii x.n.inp,.opq 1,.opq 8,.opq 3,.opq 4,.v (.slice none 0 0),ii (KN:Int)] 45)::(4,.rwin 2 l.length (l.flatMap Evt.vals))::[])) (fun _=>True) x.n.S.length trivial ?_ ?_
   ·intro j hj _ ih2
    refine Run.of_wpK (hc w [] none (fun _ h=>by cases h)) 1000 _ ?_
    conv=>whnf
    rw [decide_eq_true (show ((j:Nat):Int)<(x.n.S.length:Int) by omega)]
    conv=>whnf
    have hj1:j<(nowL x.n.S s2.m).length:=by rw [now_len]; exact hj
    have hj2:j<(nowL x.n.S s.m).length:=by rw [now_len]; exact hj
    have hbl:RowLike (befO x l i) 4 x.n.S.length ((nowL x.n.S s.m).flatMap Syn.vals):=by rw [← hs]; exact befO_like x l i
    have ea:(nowL x.n.S s2.m)[j].w=wAt s2.m j:=by
     have:=now_get hinv2 hj
     rw [List.getD_eq_getElem?_getD,List.getElem?_eq_getElem hj1] at this
     exact congrArg Syn.w this
    have eb:((nowL x.n.S s.m)[j]'(by rw [now_len]; exact hj)).w=wAt s.m j:=by
     have:=now_get hinv hj
     rw [List.getD_eq_getElem?_getD,List.getElem?_eq_getElem (by rw [now_len]; exact hj)] at this
     exact congrArg Syn.w this
    have hsg:=sign_step (up:=up) hx hok0 l i j (by omega)
    rw [hs3,hs] at hsg
    cases hup:up
    ·rw [hup] at hsg ih2
     have hc1:=hsg.2 rfl
     refine Run.draw (hc w [] none (fun _ h=>by cases h)) 35 ?_
     rw [show upto 0 35=upto 0 24++(upto 24 2++(upto 26 4++(upto 30 2++upto 32 3))) from rfl]
     simp only [drawK_app]
     conv=>whnf
     refine ⟨by omega,?_⟩
     conv=>whnf
     rw [opF_loadRf (f:=Syn.cells) (l:=nowL x.n.S s2.m) j 2 rfl rfl rfl rfl Syn.clen (by rw [idx_nat]) hj1 (by decide) rfl]
     conv=>whnf
     rw [opF_indexA (befO_like x l i) rfl rfl rfl rfl rfl rfl]
     conv=>whnf
     refine ⟨by omega,?_⟩
     conv=>whnf
     rw [opF_loadA (f:=Syn.vals) (l:=nowL x.n.S s.m) (c := .int .i64 (nowL x.n.S s.m)[j].w) hbl j 2 rfl rfl rfl rfl Syn.vlen (by rw [idx_nat]) hj2 (by decide) rfl]
     conv=>whnf
     refine ⟨by kernel_rfl,?_⟩
     refine Run.of_wpK (hc w [] none (fun _ h=>by cases h)) 1000 _ ?_
     conv=>whnf
     rw [show decide ((nowL x.n.S s.m)[j].w<(nowL x.n.S s2.m)[j].w)=false by rw [decide_eq_false_iff_not,ea,eb]; omega]
     conv=>whnf
     exact Run.trim (T':=[(1,.v (.bool false)),(2,.ptr 6 0),(6,.ptr 9 0),(8,.ptr 33 0),(9,ii ((i:Nat):Int)),(14,.ptr 42 0),(16,ii (((j+1):Nat):Int))]) (M':=((42,.cells [.opq 40,ii x.n.inp,.opq 41] 25)::(41,.row 4 x.n.S.length ((nowL x.n.S s2.m).flatMap Syn.cells) 55)::(40,.row 8 x.n.N.length ((x.n.N.flatMap Prm.vals).map .v) 60)::(9,.cells [ii ((i+1:Nat):Int),.opq 10,ii x.n.inp,.opq 11,.opq 12,.mp 17,.mp 18,.mp 19,.mp 20,.mp 21,.mp 22,.mp 23,.mp 24,.mp 25,.mp 26,.mp 27,.mp 28,.mp 29,.mp 30,.mp 31,.mp 32,.opq 13,.opq 14,.opq 15,.mp 16] 96)::(10,.row 8 x.n.N.length ((x.n.N.flatMap Prm.vals).map .v) 60)::(11,.row 4 x.n.S.length ((x.n.S.flatMap Syn.vals).map .v) 55)::(12,.row 2 x.n.N.length (s2.st.flatMap Ste.cells) 139)::(13,.row 10 x.rs.length ((x.rs.flatMap Rul.vals).map .v) 36)::(14,.row 1 x.pl.length ((ints x.pl).map .v) 3)::(15,.row 4 x.pl.length (s2.m.flatMap Mrk.cells) 84)::(16,.kmap true true x.tot)::(17,.kmap false false (sentE (s2.sm 0)))::(18,.kmap false false (sentE (s2.sm 1)))::(19,.kmap false false (sentE (s2.sm 2)))::(20,.kmap false false (sentE (s2.sm 3)))::(21,.kmap false false (sentE (s2.sm 4)))::(22,.kmap false false (sentE (s2.sm 5)))::(23,.kmap false false (sentE (s2.sm 6)))::(24,.kmap false false (sentE (s2.sm 7)))::(25,.kmap false false (sentE (s2.sm 8)))::(26,.kmap false false (sentE (s2.sm 9)))::(27,.kmap false false (sentE (s2.sm 10)))::(28,.kmap false false (sentE (s2.sm 11)))::(29,.kmap false false (sentE (s2.sm 12)))::(30,.kmap false false (sentE (s2.sm 13)))::(31,.kmap false false (sentE (s2.sm 14)))::(32,.kmap false false (sentE (s2.sm 15)))::(33,.cells [.opq 35,ii x.n.inp,.opq 34] 25)::(34,befO x l i)::(8,.row 10 x.rs.length (x.rs.flatMap Rul.cells) 36)::(6,.cells [.opq 0,ii x.n.inp,.opq 1,.opq 8,.opq 3,.opq 4,.v (.slice none 0 0),ii (KN:Int)] 45)::(4,.rwin 2 l.length (l.flatMap Evt.vals))::[])) 43 ⟨⟨rfl,trivial⟩,⟨rfl,(show 6<43 by decide)⟩,⟨rfl,(show 9<43 by decide)⟩,⟨rfl,(show 33<43 by decide)⟩,⟨rfl,trivial⟩,⟨rfl,(show 42<43 by decide)⟩,⟨congrArg some (congrArg ii (wrap_succ (by omega))),trivial⟩,trivial⟩ ⟨⟨rfl,by omega,by simp [SObj.sc,SV.scs,SV.sc]⟩,⟨rfl,by omega,scs_syns _ _⟩,⟨rfl,by omega,scs_v _ _⟩,⟨rfl,by omega,by simp [SObj.sc,SV.scs,SV.sc]⟩,⟨rfl,by omega,scs_v _ _⟩,⟨rfl,by omega,scs_v _ _⟩,⟨rfl,by omega,scs_st _ _⟩,⟨rfl,by omega,scs_v _ _⟩,⟨rfl,by omega,scs_v _ _⟩,⟨rfl,by omega,scs_marks _ _⟩,⟨rfl,by omega,trivial⟩,⟨rfl,by omega,trivial⟩,⟨rfl,by omega,trivial⟩,⟨rfl,by omega,trivial⟩,⟨rfl,by omega,trivial⟩,⟨rfl,by omega,trivial⟩,⟨rfl,by omega,trivial⟩,⟨rfl,by omega,trivial⟩,⟨rfl,by omega,trivial⟩,⟨rfl,by omega,trivial⟩,⟨rfl,by omega,trivial⟩,⟨rfl,by omega,trivial⟩,⟨rfl,by omega,trivial⟩,⟨rfl,by omega,trivial⟩,⟨rfl,by omega,trivial⟩,⟨rfl,by omega,trivial⟩,⟨rfl,by omega,trivial⟩,⟨rfl,by omega,by simp [SObj.sc,SV.scs,SV.sc]⟩,⟨rfl,by omega,(befO_like x l i).sc _⟩,⟨rfl,by omega,scs_ruls _ _⟩,⟨rfl,by omega,by simp [SObj.sc,SV.scs,SV.sc]⟩,⟨rfl,by omega,trivial⟩,trivial⟩ (fun p hp=>by cases hp) (ih2 trivial)
    ·rw [hup] at hsg ih2
     have hc1:=hsg.1 rfl
     refine Run.draw (hc w [] none (fun _ h=>by cases h)) 35 ?_
     rw [show upto 0 35=upto 0 6++(upto 6 2++(upto 8 4++(upto 12 2++(upto 14 3++(upto 17 1++upto 18 17))))) from rfl]
     simp only [drawK_app]
     conv=>whnf
     refine ⟨by omega,?_⟩
     conv=>whnf
     rw [opF_loadRf (f:=Syn.cells) (l:=nowL x.n.S s2.m) j 2 rfl rfl rfl rfl Syn.clen (by rw [idx_nat]) hj1 (by decide) rfl]
     conv=>whnf
     rw [opF_indexA (befO_like x l i) rfl rfl rfl rfl rfl rfl]
     conv=>whnf
     refine ⟨by omega,?_⟩
     conv=>whnf
     rw [opF_loadA (f:=Syn.vals) (l:=nowL x.n.S s.m) (c := .int .i64 (nowL x.n.S s.m)[j].w) hbl j 2 rfl rfl rfl rfl Syn.vlen (by rw [idx_nat]) hj2 (by decide) rfl]
     conv=>whnf
     rw [show decide ((nowL x.n.S s2.m)[j].w<(nowL x.n.S s.m)[j].w)=false by rw [decide_eq_false_iff_not,ea,eb]; omega]
     conv=>whnf
     refine ⟨by kernel_rfl,?_⟩
     refine Run.of_wpK (hc w [] none (fun _ h=>by cases h)) 1000 _ ?_
     conv=>whnf
     exact Run.trim (T':=[(1,.v (.bool true)),(2,.ptr 6 0),(6,.ptr 9 0),(8,.ptr 33 0),(9,ii ((i:Nat):Int)),(14,.ptr 42 0),(16,ii (((j+1):Nat):Int))]) (M':=((42,.cells [.opq 40,ii x.n.inp,.opq 41] 25)::(41,.row 4 x.n.S.length ((nowL x.n.S s2.m).flatMap Syn.cells) 55)::(40,.row 8 x.n.N.length ((x.n.N.flatMap Prm.vals).map .v) 60)::(9,.cells [ii ((i+1:Nat):Int),.opq 10,ii x.n.inp,.opq 11,.opq 12,.mp 17,.mp 18,.mp 19,.mp 20,.mp 21,.mp 22,.mp 23,.mp 24,.mp 25,.mp 26,.mp 27,.mp 28,.mp 29,.mp 30,.mp 31,.mp 32,.opq 13,.opq 14,.opq 15,.mp 16] 96)::(10,.row 8 x.n.N.length ((x.n.N.flatMap Prm.vals).map .v) 60)::(11,.row 4 x.n.S.length ((x.n.S.flatMap Syn.vals).map .v) 55)::(12,.row 2 x.n.N.length (s2.st.flatMap Ste.cells) 139)::(13,.row 10 x.rs.length ((x.rs.flatMap Rul.vals).map .v) 36)::(14,.row 1 x.pl.length ((ints x.pl).map .v) 3)::(15,.row 4 x.pl.length (s2.m.flatMap Mrk.cells) 84)::(16,.kmap true true x.tot)::(17,.kmap false false (sentE (s2.sm 0)))::(18,.kmap false false (sentE (s2.sm 1)))::(19,.kmap false false (sentE (s2.sm 2)))::(20,.kmap false false (sentE (s2.sm 3)))::(21,.kmap false false (sentE (s2.sm 4)))::(22,.kmap false false (sentE (s2.sm 5)))::(23,.kmap false false (sentE (s2.sm 6)))::(24,.kmap false false (sentE (s2.sm 7)))::(25,.kmap false false (sentE (s2.sm 8)))::(26,.kmap false false (sentE (s2.sm 9)))::(27,.kmap false false (sentE (s2.sm 10)))::(28,.kmap false false (sentE (s2.sm 11)))::(29,.kmap false false (sentE (s2.sm 12)))::(30,.kmap false false (sentE (s2.sm 13)))::(31,.kmap false false (sentE (s2.sm 14)))::(32,.kmap false false (sentE (s2.sm 15)))::(33,.cells [.opq 35,ii x.n.inp,.opq 34] 25)::(34,befO x l i)::(8,.row 10 x.rs.length (x.rs.flatMap Rul.cells) 36)::(6,.cells [.opq 0,ii x.n.inp,.opq 1,.opq 8,.opq 3,.opq 4,.v (.slice none 0 0),ii (KN:Int)] 45)::(4,.rwin 2 l.length (l.flatMap Evt.vals))::[])) 43 ⟨⟨rfl,trivial⟩,⟨rfl,(show 6<43 by decide)⟩,⟨rfl,(show 9<43 by decide)⟩,⟨rfl,(show 33<43 by decide)⟩,⟨rfl,trivial⟩,⟨rfl,(show 42<43 by decide)⟩,⟨congrArg some (congrArg ii (wrap_succ (by omega))),trivial⟩,trivial⟩ ⟨⟨rfl,by omega,by simp [SObj.sc,SV.scs,SV.sc]⟩,⟨rfl,by omega,scs_syns _ _⟩,⟨rfl,by omega,scs_v _ _⟩,⟨rfl,by omega,by simp [SObj.sc,SV.scs,SV.sc]⟩,⟨rfl,by omega,scs_v _ _⟩,⟨rfl,by omega,scs_v _ _⟩,⟨rfl,by omega,scs_st _ _⟩,⟨rfl,by omega,scs_v _ _⟩,⟨rfl,by omega,scs_v _ _⟩,⟨rfl,by omega,scs_marks _ _⟩,⟨rfl,by omega,trivial⟩,⟨rfl,by omega,trivial⟩,⟨rfl,by omega,trivial⟩,⟨rfl,by omega,trivial⟩,⟨rfl,by omega,trivial⟩,⟨rfl,by omega,trivial⟩,⟨rfl,by omega,trivial⟩,⟨rfl,by omega,trivial⟩,⟨rfl,by omega,trivial⟩,⟨rfl,by omega,trivial⟩,⟨rfl,by omega,trivial⟩,⟨rfl,by omega,trivial⟩,⟨rfl,by omega,trivial⟩,⟨rfl,by omega,trivial⟩,⟨rfl,by omega,trivial⟩,⟨rfl,by omega,trivial⟩,⟨rfl,by omega,trivial⟩,⟨rfl,by omega,by simp [SObj.sc,SV.scs,SV.sc]⟩,⟨rfl,by omega,(befO_like x l i).sc _⟩,⟨rfl,by omega,scs_ruls _ _⟩,⟨rfl,by omega,by simp [SObj.sc,SV.scs,SV.sc]⟩,⟨rfl,by omega,trivial⟩,trivial⟩ (fun p hp=>by cases hp) (ih2 trivial)
   ·intro _
    refine Run.of_wpK (hc w [] none (fun _ h=>by cases h)) 1000 _ ?_
    conv=>whnf
    rw [decide_eq_false (show ¬ ((x.n.S.length:Nat):Int)<(x.n.S.length:Int) by omega)]
    conv=>whnf
    rw [hs3] at ih
    refine Run.trimQ (T':=[(1,.v (.bool up)),(2,.ptr 6 0),(6,.ptr 9 0),(8,.ptr 33 0),(9,ii (((i+1:Nat):Nat):Int))]) (M':=[(9,.cells [ii ((i+1:Nat):Int),.opq 10,ii x.n.inp,.opq 11,.opq 12,.mp 17,.mp 18,.mp 19,.mp 20,.mp 21,.mp 22,.mp 23,.mp 24,.mp 25,.mp 26,.mp 27,.mp 28,.mp 29,.mp 30,.mp 31,.mp 32,.opq 13,.opq 14,.opq 15,.mp 16] 96),(10,.row 8 x.n.N.length ((x.n.N.flatMap Prm.vals).map .v) 60),(11,.row 4 x.n.S.length ((x.n.S.flatMap Syn.vals).map .v) 55),(12,.row 2 x.n.N.length (s2.st.flatMap Ste.cells) 139),(13,.row 10 x.rs.length ((x.rs.flatMap Rul.vals).map .v) 36),(14,.row 1 x.pl.length ((ints x.pl).map .v) 3),(15,.row 4 x.pl.length (s2.m.flatMap Mrk.cells) 84),(16,.kmap true true x.tot),(17,.kmap false false (sentE (s2.sm 0))),(18,.kmap false false (sentE (s2.sm 1))),(19,.kmap false false (sentE (s2.sm 2))),(20,.kmap false false (sentE (s2.sm 3))),(21,.kmap false false (sentE (s2.sm 4))),(22,.kmap false false (sentE (s2.sm 5))),(23,.kmap false false (sentE (s2.sm 6))),(24,.kmap false false (sentE (s2.sm 7))),(25,.kmap false false (sentE (s2.sm 8))),(26,.kmap false false (sentE (s2.sm 9))),(27,.kmap false false (sentE (s2.sm 10))),(28,.kmap false false (sentE (s2.sm 11))),(29,.kmap false false (sentE (s2.sm 12))),(30,.kmap false false (sentE (s2.sm 13))),(31,.kmap false false (sentE (s2.sm 14))),(32,.kmap false false (sentE (s2.sm 15))),(33,.cells [.opq 35,ii x.n.inp,.opq 34] 25),(34,befO x l (i+1)),(8,.row 10 x.rs.length (x.rs.flatMap Rul.cells) 36),(6,.cells [.opq 0,ii x.n.inp,.opq 1,.opq 8,.opq 3,.opq 4,.v (.slice none 0 0),ii (KN:Int)] 45),(4,.rwin 2 l.length (l.flatMap Evt.vals))]) (rq [(34,41),(41,34),(35,40),(40,35)]) 36 ?_ ?_ ?_ ?_ (ih trivial)
    ·intro i hi j hj hne he
     have inv : ∀ i,i<36→rq [(34,41),(41,34),(35,40),(40,35)] (rq [(34,41),(41,34),(35,40),(40,35)] i)=i:=by decide
     exact hne (by rw [← inv i hi,he,inv j hj])
    ·exact ⟨⟨rfl,trivial⟩,⟨rfl,(show 6<36 by decide)⟩,⟨rfl,(show 9<36 by decide)⟩,⟨rfl,(show 33<36 by decide)⟩,⟨congrArg some (congrArg ii (wrap_succ (by omega))),trivial⟩,trivial⟩
    ·exact ⟨⟨rfl,by omega,by simp [SObj.sc,SV.scs,SV.sc]⟩,⟨congrArg some (oren_fix (S:=fun _=>False) (fun i hi=>hi.elim) (o := .row 8 x.n.N.length ((x.n.N.flatMap Prm.vals).map .v) 60) (scs_v _ _)).symm,by omega,scs_v _ _⟩,⟨congrArg some (oren_fix (S:=fun _=>False) (fun i hi=>hi.elim) (o := .row 4 x.n.S.length ((x.n.S.flatMap Syn.vals).map .v) 55) (scs_v _ _)).symm,by omega,scs_v _ _⟩,⟨congrArg some (oren_fix (S:=fun _=>False) (fun i hi=>hi.elim) (o := .row 2 x.n.N.length (s2.st.flatMap Ste.cells) 139) (scs_st _ _)).symm,by omega,scs_st _ _⟩,⟨congrArg some (oren_fix (S:=fun _=>False) (fun i hi=>hi.elim) (o := .row 10 x.rs.length ((x.rs.flatMap Rul.vals).map .v) 36) (scs_v _ _)).symm,by omega,scs_v _ _⟩,⟨congrArg some (oren_fix (S:=fun _=>False) (fun i hi=>hi.elim) (o := .row 1 x.pl.length ((ints x.pl).map .v) 3) (scs_v _ _)).symm,by omega,scs_v _ _⟩,⟨congrArg some (oren_fix (S:=fun _=>False) (fun i hi=>hi.elim) (o := .row 4 x.pl.length (s2.m.flatMap Mrk.cells) 84) (scs_marks _ _)).symm,by omega,scs_marks _ _⟩,⟨rfl,by omega,trivial⟩,⟨rfl,by omega,trivial⟩,⟨rfl,by omega,trivial⟩,⟨rfl,by omega,trivial⟩,⟨rfl,by omega,trivial⟩,⟨rfl,by omega,trivial⟩,⟨rfl,by omega,trivial⟩,⟨rfl,by omega,trivial⟩,⟨rfl,by omega,trivial⟩,⟨rfl,by omega,trivial⟩,⟨rfl,by omega,trivial⟩,⟨rfl,by omega,trivial⟩,⟨rfl,by omega,trivial⟩,⟨rfl,by omega,trivial⟩,⟨rfl,by omega,trivial⟩,⟨rfl,by omega,trivial⟩,⟨rfl,by omega,trivial⟩,⟨rfl,by omega,by simp [SObj.sc,SV.scs,SV.sc]⟩,⟨by rw [(befO_like x l (i+1)).ren]; show _=some (SObj.row 4 _ ((nowL x.n.S (sgS x l (i+1)).m).flatMap Syn.cells) 55); rw [hs3]; rfl,by omega,(befO_like x l (i+1)).sc _⟩,⟨congrArg some (oren_fix (S:=fun _=>False) (fun i hi=>hi.elim) (o := .row 10 x.rs.length (x.rs.flatMap Rul.cells) 36) (scs_ruls _ _)).symm,by omega,scs_ruls _ _⟩,⟨rfl,by omega,by simp [SObj.sc,SV.scs,SV.sc]⟩,⟨rfl,by omega,trivial⟩,trivial⟩
    ·intro p hp; cases hp
  ·intro hJ
   refine Run.of_wpK (hc w [] none (fun _ h=>by cases h)) 1000 _ ?_
   conv=>whnf
   rw [decide_eq_false (show ¬ ((KN:Nat):Int)<(KN:Int) by omega)]
   conv=>whnf
   refine Run.callE (g:=14) (vs:=[]) (caps:=[]) (.v (.bool true)) (fun ρ w1 hW=>works_run w1) (ent _ _ Try.func14 (by kernel_rfl) rfl) rfl rfl rfl rfl rfl rfl rfl trivial ?_
   refine Run.of_wpK (hc w [] none (fun _ h=>by cases h)) 1000 _ ?_
   conv=>whnf
   exact ⟨fun ρ w' hW _=>⟨rfl,hW.toExt⟩⟩
end Go.Proofs.Ytnnlpdgnlccbjaa
