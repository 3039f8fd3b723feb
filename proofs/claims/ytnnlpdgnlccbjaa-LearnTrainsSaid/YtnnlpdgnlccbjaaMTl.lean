/-
  Laws of the executor, and walks of functions (part 12). The conditions stand with each law.
-/
import Derived.SizedLaws
import Derived.Test.YtnnlpdgnlccbjaaMTk
namespace Go.Proofs.Ytnnlpdgnlccbjaa
open Go.Sx
open Go.ChangeShapes Go.WideShapes Go.ChangeAt Go.RowKit Go.Deep Go.Joins
set_option maxRecDepth 100000
section
variable {H:Type} {enc:TypeId×Value→H} {W:World} {base b0:Nat} {spare:Nat→Bool} {held:Bool} {r:Reach} {v:Value} {d:DataW H} {pl:List MemPlace}
def LenD (d:DataW H)(n:Nat):Prop:=(d = .nil∧n=0) ∨ ∃es sp,d = .slice es sp∧es.length=n
theorem el_rowsD {α : Type}{t e:TypeId}{k:Nat}(vals : α → List Value)(hvl :∀a,(vals a).length=k)(hk:0<k)(ht:Try.prog.underlying t=some (.slice e))(hc:Try.prog.cellsOf e=k)
  (hel :∀{n:Nat} {cs:List Value} {y:DataW H×List MemPlace},DataW.trod enc Try.prog W base spare held n e cs=some y → ∃p : α,cs=vals p) {n:Nat} {cs:List Value} {y:DataW H×List MemPlace} (h:DataW.trod enc Try.prog W base spare held n t cs=some y) :
  ∃(v:Value) (l:List α),cs=[v]∧RowsAt W v k l.length (l.flatMap vals)∧LenD y.1 l.length:=by
 obtain⟨v,l,h1,h2,_⟩:=wQ vals hvl hk ht hc hel h
 refine⟨v,l,h1,h2,?_⟩
 obtain⟨_,p,c,hv,_⟩:=h2
 rcases DataW.trod_slice ht h with⟨g0,g1⟩|⟨a,len,cap,elems,rest,m,_,g0,g1,_,_,_,g2,_⟩
 ·refine .inl ⟨by rw[g1],?_⟩
  rw[h1,hv]at g0
  simp only[List.cons.injEq,Value.slice.injEq,and_true]at g0
  exact g0.2.1
 ·refine .inr ⟨_,_,by rw[g1],?_⟩
  rw[h1,hv]at g0
  simp only[List.cons.injEq,Value.slice.injEq,and_true]at g0
  rw[List.length_map,g2]
  exact g0.2.1.symm
theorem el_case {n:Nat}{cs:List Value}{y:DataW H×List MemPlace}(h:DataW.trod enc Try.prog W base spare held n 45 cs=some y) :
  ∃(vN vS vR vP vE vZ:Value) (x:Net) (rs:List Rul) (p:List Int) (l:List Evt) (z:List Prz) (K:Int),cs=[vN,.int .i64 x.inp,vS,vR,vP,vE,vZ,.int .i64 K]∧x4 W vN vS x∧RowsAt W vR 10 rs.length (rs.flatMap Rul.vals)∧RowsAt W vP 1 p.length (qB p)∧RowsAt W vE 2 l.length (l.flatMap Evt.vals)∧RowsAt W vZ 3 z.length (z.flatMap Prz.vals) ∧
   ∃dn dr ds,y.1 = .agg (dn::dr::ds)∧LenD dr rs.length:=by
 obtain⟨xs,m,_,hx,hlen,hxl,hg⟩:=DataW.trod_struct Try.underlying45 h
 have hC:Try.prog.cellsOf 45=8:=by kernel_rfl
 rw[hC]at hlen
 match cs,hlen with
 | [c0,c1,c2,c3,c4,c5,c6,c7],_=>
  match xs,hxl with
  | [y0,y1,y2,y3,y4,y5],_=>
   have h1:Try.prog.cellsOf 3=1:=by kernel_rfl
   have h2:Try.prog.cellsOf 25=3:=by kernel_rfl
   have h3:Try.prog.cellsOf 26=1:=by kernel_rfl
   have h4:Try.prog.cellsOf 27=1:=by kernel_rfl
   have h5:Try.prog.cellsOf 42=1:=by kernel_rfl
   have h6:Try.prog.cellsOf 43=1:=by kernel_rfl
   have g0:DataW.trod enc Try.prog W base spare held m 25 [c0,c1,c2]=some y0:=by simpa[h2]using hg 0 _ rfl
   have g1:DataW.trod enc Try.prog W base spare held m 26 [c3]=some y1:=by simpa[h3]using hg 1 _ rfl
   have g2:DataW.trod enc Try.prog W base spare held m 27 [c4]=some y2:=by simpa[h4]using hg 2 _ rfl
   have g3:DataW.trod enc Try.prog W base spare held m 42 [c5]=some y3:=by simpa[h5]using hg 3 _ rfl
   have g4:DataW.trod enc Try.prog W base spare held m 43 [c6]=some y4:=by simpa[h6]using hg 4 _ rfl
   have g5:DataW.trod enc Try.prog W base spare held m 3 [c7]=some y5:=by simpa[h1]using hg 5 _ rfl
   obtain⟨vN,vS,x,e0,r0⟩:=el_net g0
   obtain⟨v1,l1,e1,r1,d1⟩:=el_rowsD Rul.vals Rul.vlen (by decide) Try.underlying26 (by kernel_rfl) el_rul g1
   obtain⟨v2,l2,e2,r2,_⟩:=el_introw g2
   obtain⟨v3,l3,e3,r3,_⟩:=wQ Evt.vals Evt.vlen (by decide) Try.underlying42 (by kernel_rfl) el_evt g3
   obtain⟨v4,l4,e4,r4,_⟩:=wQ Prz.vals Prz.vlen (by decide) Try.underlying43 (by kernel_rfl) el_prz g4
   obtain⟨K,e5⟩:=el_int g5
   simp only[List.cons.injEq,and_true]at e0 e1 e2 e3 e4 e5
   obtain⟨rfl,rfl,rfl⟩:=e0
   subst e1 e2 e3 e4 e5
   exact⟨_,_,_,_,_,_,x,l1,l2,l3,l4,K,rfl,r0,r1,r2,r3,r4,y0.1,y1.1,[y2.1,y3.1,y4.1,y5.1],by rw[hx];rfl,d1⟩
theorem open_case (hv:Value.okWide Try.prog W r b0 45 v)(h:DataW.Trod enc Try.prog W base spare held 45 v d pl)(hw :∀n∈DataW.weights Try.prog 45 d,n≤reachBytes) :
  ∃(vN vS vR vP vE vZ:Value) (x:Net) (rs:List Rul) (p:List Int) (l:List Evt) (z:List Prz) (K:Int),v=caseV vN vS vR vP vE vZ x K∧x4 W vN vS x∧RowsAt W vR 10 rs.length (rs.flatMap Rul.vals)∧RowsAt W vP 1 p.length (qB p)∧RowsAt W vE 2 l.length (l.flatMap Evt.vals)∧RowsAt W vZ 3 z.length (z.flatMap Prz.vals) ∧
   rs.length*80≤140737488355328:=by
 obtain⟨cs,rfl,hsz⟩:=okWide_struct Try.underlying45 hv
 obtain⟨q⟩:=cs
 obtain⟨fuel,hf⟩:=h
 obtain⟨vN,vS,vR,vP,vE,vZ,x,rs,p,l,z,K,hp,h1,h2,h3,h4,h5,dn,dr,ds,hd,hl⟩:=el_case hf
 simp[Value.cells]at hp
 subst hp
 refine⟨vN,vS,vR,vP,vE,vZ,x,rs,p,l,z,K,rfl,h1,h2,h3,h4,h5,?_⟩
 rcases hl with⟨_,h0⟩|⟨es,sp,he,hl⟩
 ·rw[h0];decide
 ·have hd:d = .agg (dn::dr::ds):=hd
  have hb:Try.prog.bytesOf 36=80:=by kernel_rfl
  have hm:(es.length+sp.length)*Try.prog.bytesOf 36∈DataW.weights Try.prog 45 d:=by
   rw[hd,he]
   simp only[DataW.weights,Try.underlying45,List.map,DataW.weightsEach,Try.underlying26,List.mem_append,List.mem_cons]
   exact .inr (.inl (.inl trivial))
  have:=hw _ hm
  rw[hb,hl]at this
  unfold reachBytes at this
  omega
end
end Go.Proofs.Ytnnlpdgnlccbjaa
namespace Go.Sx
set_option maxRecDepth 100000
set_option maxHeartbeats 2000000
open Go
def NilL (n:Nat):List SV→List SV→Prop
 | [],[]=>True
 |a::l,b::l'=>Nil1 n a b∧NilL n l l'
 |_,_=>False
def NilX (n:Nat)(o o':SObj):Prop:=o'=o∨(∃t cs cs',o = .cells cs t∧o' = .cells cs' t∧NilL n cs cs') ∨ ∃e m t cs cs',o = .row e m cs t∧o' = .row e m cs' t∧NilL n cs cs'
theorem Run.pG {c:Cx}{T T':List (Nat×SV)}{M M':List (Nat×SObj)}{n:Nat}{D:List Deferred}{todo:List Item}{R:Ending→World→Prop}(e:Nat)(te:TypeId)
  (hT :∀x∈T',∃v,look T x.1=some v∧Nil1 n v x.2) (hM :∀x∈M',x=(n,.row e 0 [] te) ∨ ∃o,look M x.1=some o∧NilX n o x.2)
  (h:Run c ⟨T',M',n+1,D,todo⟩ R):Run c ⟨T,M,n,D,todo⟩ R:=by
 refine⟨fun ρ a w hi=> ?_⟩
 have ha:Env.agree (· < n) ρ (ρ.bindV n (.slice none 0 0)):=Env.p7 ρ _ (Nat.lt_irrefl n)
 have hn:((ρ.bindV n (.slice none 0 0)).h n)=(none,0,0):=by simp[Env.bindV,hOf]
 have hval :∀v v',SV.sc (· < n) v→Nil1 n v v'→v'.conc (ρ.bindV n (.slice none 0 0))=v.conc ρ∧v'.sc (· < n+1):=by
  rintro v v' hs (rfl|⟨rfl,rfl⟩)
  ·exact⟨jV ha _ hs,SV.sc_mono (fun q hq=>by have hq:q<n:=hq;omega) _ hs⟩
  ·exact⟨by simp[SV.conc,hn],Nat.lt_succ_self n⟩
 have hne :∀kk o,look M' kk=some o→kk≠n → ∃o0,look M kk=some o0∧NilX n o0 o:=by
  intro kk o hk hkn
  rcases hM _ (qH hk)with h|h
  ·simp only[Prod.mk.injEq]at h;exact absurd h.1 hkn
  ·exact h
 have hMn :∀o,look M n≠some o:=fun o ho=>Nat.lt_irrefl n (hi.wi.mem n o ho).1
 have heq :∀o,look M' n=some o→o = .row e 0 [] te:=by
  intro o hk
  rcases hM _ (qH hk)with h|⟨o0,h,_⟩
  ·simp only[Prod.mk.injEq]at h;exact h.2
  ·exact absurd h (hMn o0)
 have hoccN :∀{o:SObj},o = .row e 0 [] te → ¬o.occ (ρ.bindV n (.slice none 0 0)) n:=by
  rintro o rfl hc
  have hc:((ρ.bindV n (.slice none 0 0)).h n).1≠none:=hc
  rw[hn]at hc;exact hc rfl
 have hocc :∀{kk:Nat} {o0 o:SObj},look M kk=some o0→NilX n o0 o→o.occ (ρ.bindV n (.slice none 0 0)) kk→o0.occ ρ kk:=by
  intro kk o0 o hk hno hc
  rcases hno with rfl|⟨t,cs,cs',rfl,rfl,_⟩|⟨e',m,t,cs,cs',rfl,rfl,_⟩
  ·exact(SObj.pC ha (hi.wi.mem kk _ hk).1).1 hc
  ·trivial
  ·have hc:((ρ.bindV n (.slice none 0 0)).h kk).1≠none:=hc
   show(ρ.h kk).1≠none
   rw[←(ha kk (hi.wi.mem kk _ hk).1).2.2];exact hc
 refine h.go (ρ.bindV n (.slice none 0 0)) a w ⟨hi.sz,?_,hi.df,⟨?_,?_,?_,?_,hi.wi.keep,hi.wi.size,hi.wi.os,hi.wi.tape,hi.wi.output⟩⟩
 ·intro t v ht
  obtain⟨v0,h1,h2⟩:=hT _ (qH ht)
  obtain⟨g1,g2,g3⟩:=hi.tm t v0 h1
  obtain⟨k1,k2⟩:=hval v0 v g3 h2
  exact⟨g1,by rw[k1];exact g2,k2⟩
 ·intro kk o hk
  by_cases e':kk=n
  ·subst e'
   obtain rfl:=heq o hk
   exact⟨Nat.lt_succ_self _,trivial,by simp[Env.bindV],by simp,.inl ⟨hn,rfl⟩⟩
  ·obtain⟨o0,h1,h2⟩:=hne kk o hk e'
   obtain⟨g1,g2,g3⟩:=hi.wi.mem kk o0 h1
   have g1':kk<n:=g1
   have hcs :∀cs cs',SV.scs (· < n) cs→NilL n cs cs'→SV.concs (ρ.bindV n (.slice none 0 0)) cs'=SV.concs ρ cs∧SV.scs (· < n+1) cs'∧cs'.length=cs.length:=by
    intro cs
    induction cs with
    |nil=>intro cs' _ hl;cases cs' with
     |nil=>exact⟨rfl,trivial,rfl⟩
     |cons _ _=>exact hl.elim
    |cons x cs ih=>intro cs' hs hl;cases cs' with
     |nil=>exact hl.elim
     |cons y cs'=>
      obtain⟨i1,i2,i3⟩:=ih cs' hs.2 hl.2
      obtain⟨j1,j2⟩:=hval x y hs.1 hl.1
      exact⟨by show y.conc _::SV.concs _ cs'=x.conc ρ::SV.concs ρ cs;rw[i1,j1],⟨j2,i2⟩,by simp[i3]⟩
   rcases h2 with rfl|⟨t,cs,cs',rfl,rfl,hnl⟩|⟨e',m,t,cs,cs',rfl,rfl,hnl⟩
   ·exact⟨by show kk<n+1;omega,SObj.sc_mono (fun q (hq:q<n)=>Nat.lt_succ_of_lt hq) g2,SObj.pK ha g1 g2 (fun _=>rfl) g3⟩
   ·obtain⟨i1,i2,i3⟩:=hcs cs cs' g2 hnl
    refine⟨by show kk<n+1;omega,i2,?_⟩
    obtain⟨f1,f2⟩:=g3
    obtain⟨a1,a2,_⟩:=ha kk g1
    exact⟨by rw[a2,f1],by rw[a1,f2,i1]⟩
   ·obtain⟨i1,i2,i3⟩:=hcs cs cs' g2 hnl
    refine⟨by show kk<n+1;omega,i2,?_⟩
    obtain⟨f1,f2,f3⟩:=g3
    obtain⟨a1,a2,a3⟩:=ha kk g1
    refine⟨by rw[a2,f1],by rw[i3,f2],?_⟩
    rw[a3,a1,i1]
    exact f3
 ·intro i j o o' hi' hj' hij hc hc'
  by_cases e1:i=n
  ·subst e1;exact absurd hc (hoccN (heq o hi'))
  ·by_cases e2:j=n
   ·subst e2;exact absurd hc' (hoccN (heq o' hj'))
   ·obtain⟨o0,h1,h2⟩:=hne i o hi' e1
    obtain⟨o1,h3,h4⟩:=hne j o' hj' e2
    rw[(ha i (hi.wi.mem i o0 h1).1).1,(ha j (hi.wi.mem j o1 h3).1).1]
    exact hi.wi.dist i j o0 o1 h1 h3 hij (hocc h1 h2 hc) (hocc h3 h4 hc')
 ·intro i o hi' hc
  by_cases e1:i=n
  ·subst e1;exact absurd hc (hoccN (heq o hi'))
  ·obtain⟨o0,h1,h2⟩:=hne i o hi' e1
   rw[(ha i (hi.wi.mem i o0 h1).1).1]
   exact hi.wi.new i o0 h1 (hocc h1 h2 hc)
 ·intro p hp
  obtain⟨h1,h2⟩:=hi.wi.lid p hp
  have h1':p.1<n:=h1
  exact⟨by show p.1<n+1;omega,by rw[(ha p.1 h1).1,h2]⟩
theorem Run.appendC {c:Cx}(hc:c.ok){T:List (Nat×SV)}{M:List (Nat×SObj)}{n:Nat}{D:List Deferred}{ops:Array Oper}{i:Nat}{r:List Nat}{k:List Item}{R:Ending→World→Prop}{o:Oper}{x y:Operand}{t:TypeId}
  (ho:get ops.toList i=some o) (hop:o.op = .call { callee:=.builtin .append,args:= #[x,y],argTypes:= #[t,t] }) (hw:jE ops.toList (look T) o=some true) (hd:okD c.fn.ntmps o.dst=true)
  {j e:Nat} {te:TypeId} (hx:ev (look T) x=some (.slc j 0 0 0)) (hj:look M j=some (.cells [] te))
  {q len:Nat} {vs:List Value} (hy:ev (look T) y=some (.opq q)) (hq :∀ ρ w,WI c.w0 c.L ρ (look M) (· < n) w→RowsAt w ((SV.opq q).conc ρ) e len vs) (hone' :∀u∈vs,u.oneCell'=true)
  {ti tie:TI} {bytes:Nat} (hti:look c.tab t=some ti) (hsh:ti.sh = .slc te e bytes) (hte:look c.tab te=some tie) (hz:tie.zero.length=e) (he:0<e)
  (hfit:len*bytes≤140737488355328∧len<9223372036854775808) (M':List (Nat×SObj)) (hM':AllP (fun p=>look M p.1=some p.2∧p.1≠j) M')
  (h:Run c ⟨jW T o.dst (.opq n),(n,.row e len (vs.map .v) te)::M',n+1,D,.inRegion ops r::k⟩ R):Run c ⟨T,M,n,D,.inRegion ops (i::r)::k⟩ R:=by
 refine⟨fun ρ a w hi=> ?_⟩
 rw[zL,Array.getElem?_toList]at ho
 refine TW.op ho (z7 hi.tm hw) ?_
 obtain⟨h1,_⟩:=qT hi.tm hx
 obtain⟨h2,_⟩:=qT hi.tm hy
 have hti:=Tab.ok_look hc.tab hti
 have hte:=Tab.ok_look hc.tab hte
 obtain⟨d,hd1,hd2⟩:=hti.desc
 obtain⟨inf,rfl,g2,g3,g4⟩:=sh_desc.2.2.2.2.1 te e bytes (hd2.trans hsh)
 obtain⟨inf',z,i1,_,i3,i4⟩:=hte.infos
 rw[g2]at i1
 obtain rfl:=Option.some.inj i1
 have hzs:z.cells.size=e:=by rw[←hz,←i4];simp
 obtain⟨hSj,hscj,h0,hcb⟩:=hi.wi.mem j _ hj
 have hsub :∀kk oo,look M' kk=some oo→look M kk=some oo:=fun kk oo hk=>(hM'.mem _ (qH hk)).1
 have hown:w.ownsRow 0 te e (.slice (some ⟨ρ.s j,0,none⟩) 0 0) 0 []:=
  ⟨by simp,.inr ⟨ρ.s j,0,#[],rfl,Nat.zero_le _,hcb,Nat.le_refl _,Nat.zero_le _,by simp,by simp⟩⟩
 have hx1:a.eval x = .slice (some ⟨ρ.s j,0,none⟩) 0 0:=by rw[h1];simp only[SV.conc,h0,Nat.add_zero]
 obtain⟨hvl,p,cap,hv,hcap,hp⟩:=hq ρ w hi.wi
 rw[hv]at h2
 have fin :∀v' w' row,(execOp a.eval o).run c.P w = .ok (.value v') w'→w'.ownsRow 0 te e v' len vs→w.grownBy w' row→(row=none∨row=some (ρ.s j))→(∀g,v'.ownBlock=some g→row=some g∨w.heap.size≤g) →
   Oc c.P a o w fun v w'=>TW c.P c.f c.rr (a.put o.dst v) (.inRegion ops r::k) w' R:=by
  intro v' w' row hrun r2 r3 r4 r5
  rw[←zV ρ vs]at r2
  obtain⟨hW',hag⟩:=hi.wi.rowTo hsub (i:=n) (Nat.lt_irrefl n) (xs:=vs.map .v) (t:=te) (e:=e) (n:=len) r3 (fun b hb=>by
   rcases r4 with r4|r4
   ·rw[r4]at hb;cases hb
   ·rw[r4]at hb
    obtain rfl:=Option.some.inj hb
    exact⟨fun kk oo hk ck=>hi.wi.dist kk j oo _ (hsub kk oo hk) hj (hM'.mem _ (qH hk)).2 ck trivial,hi.wi.new j _ hj trivial⟩) r5 r2 (qR _ vs)
  refine Oc.value hrun ?_
  have hW2:WI c.w0 c.L (ρ.bindV n v') (look ((n,.row e len (vs.map .v) te)::M')) (· < n+1) w':=by
   rw[zD];exact hW'.mono fun q hq=>by have hq:q<n∨q=n:=hq;omega
  have hinv:=hi.put (ρ':=ρ.bindV n v') hd hag (Nat.le_succ n) (v:=.opq n) (Nat.lt_succ_self n) hW2 (.inRegion ops r::k)
  rw[yH r2]at hinv
  exact h.go _ _ w' hinv
 cases p with
 |none=>
  have hl0:len=0:=by
   rcases hp with hp|⟨_,_,hp,_⟩
   ·exact hp
   ·cases hp
  subst hl0
  obtain rfl:vs=[]:=List.length_eq_zero_iff.1 (by simpa using hvl)
  have hrun:(execOp a.eval o).run c.P w = .ok (.value (.slice (some ⟨ρ.s j,0,none⟩) 0 0)) w:=by
   simp[execOp,hop,resolve,invoke,builtin,hx1,h2,sJ w hd1 g2 _ 0 0 cap (Nat.le_refl 0)]
  exact fin _ w (some (ρ.s j)) hrun hown ⟨rfl,rfl,rfl,Nat.le_refl _,fun _ _ _=>rfl⟩ (.inr rfl) (fun g hg=>.inl hg)
 |some ad=>
  have hcell :∀jj u,vs[jj]? = some u→w.cell? (ad.add jj)=some u:=fun jj u hu=>by
   rcases hp with hp|⟨blk,off,hp,_,hh⟩
   ·subst hp
    obtain rfl:vs=[]:=List.length_eq_zero_iff.1 (by simpa using hvl)
    cases hu
   ·obtain rfl:=Option.some.inj hp
    rw[jL];exact hh jj u hu
  obtain⟨v',w',row,r1,r2,r3,r4,r5⟩:=xP (P:=c.P) w t o.type te inf z e hd1 g2 i3 g3 hzs he _ 0 _ hown ad len cap vs hvl hcell hone' (by simp only[maxLen];omega) (by rw[g4,Nat.zero_add];exact hfit.1)
  rw[Nat.zero_add,List.nil_append]at r2
  have hrun:(execOp a.eval o).run c.P w = .ok (.value v') w':=by
   simp[execOp,hop,resolve,invoke,builtin,hx1,h2,r1]
  exact fin v' w' row hrun r2 r3 (r4.imp id fun h=>h) r5
theorem WI.enterA {w0 w:World}{L:List (Nat×Nat)}{ρ:Env}{M:List (Nat×SObj)}{n:Nat}(hW:WI w0 L ρ (look M) (· < n) w)(r:Nat→Nat)(Mc:List (Nat×SObj))(B:Nat)(is:List Nat)(keys:List Nat)(hkeys:Mc.map (·.1)=keys)(hinj :∀i∈keys,∀j∈keys,i≠j→r i≠r j)
  (hMc:AllP (fun x=>x.1<B∧x.2.sc (· < B)∧(∃o,look M (r x.1)=some o∧Conv o (x.2.ren r))∧(x.2.wnd=true∨x.1∈is)∧(x.2.wnd=true→x.1∉is)) Mc) (his :∀i∈is,i<B ∧ ∃o,look Mc i=some o) :
  ∃L',(∀p∈L',p.1∈is∧p.2=ρ.s (r p.1) ∧ ∃o,look M (r p.1)=some o∧o.occ ρ (r p.1))∧WI w L' (ρ.ren r) (look Mc) (· < B) w:=by
 classical
 let L':List (Nat×Nat):=(is.filter fun i=>decide (∃o,look M (r i)=some o∧o.occ ρ (r i))).map fun i=>(i,ρ.s (r i))
 have hL' :∀p∈L',p.1∈is∧p.2=ρ.s (r p.1) ∧ ∃o,look M (r p.1)=some o∧o.occ ρ (r p.1):=by
  intro p hp
  obtain⟨i,hi,rfl⟩:=List.mem_map.1 hp
  obtain⟨h1,h2⟩:=List.mem_filter.1 hi
  exact⟨h1,rfl,of_decide_eq_true h2⟩
 have hk :∀x∈Mc,x.1∈keys:=fun x hx=>by rw[←hkeys];exact List.mem_map.2 ⟨x,hx,rfl⟩
 refine⟨L',hL',?_⟩
 refine hW.again ((Ext.refl w).modF fun _=>False) r L' Mc B (fun p hp=> ?_) (fun x hx=> ?_) (fun x hx y hy h=>hinj _ (hk x hx) _ (hk y hy) h)
 ·obtain⟨h1,h2,h3⟩:=hL' p hp
  obtain⟨h4,o,h5⟩:=his p.1 h1
  exact⟨h4,h2,⟨_,qH h5,rfl⟩,h3⟩
 ·obtain⟨h1,h2,⟨o,h3,h4⟩,h5,h6⟩:=hMc.mem x hx
  refine⟨h1,h2,fun ho=> ?_,o,h3,h4,?_,fun hwd p hp he=>h6 hwd (by rw[←he];exact(hL' p hp).1)⟩
  ·rcases h5 with h5|h5
   ·exfalso
    cases hx2:x.2<;>rw[hx2]at h5 ho<;>first|cases h5;done|exact ho.elim
   ·refine⟨(x.1,ρ.s (r x.1)),List.mem_map.2 ⟨x.1,List.mem_filter.2 ⟨h5,decide_eq_true ⟨o,h3,?_⟩⟩,rfl⟩,rfl⟩
    rcases h4 with h4|⟨e,m,t,vs,_,_,h4⟩|⟨pk,nn,l,_,h4⟩
    ·rw[←h4];exact occ_ren.2 ho
    ·have:=(occ_ren (ρ:=ρ) (r:=r) (i:=x.1) (o:=x.2)).2 ho
     rw[h4]at this;exact this.elim
    ·have:=(occ_ren (ρ:=ρ) (r:=r) (i:=x.1) (o:=x.2)).2 ho
     rw[h4]at this;exact this.elim
  ·cases o<;>simp[SObj.away]
theorem Run.callA {c:Cx}{T:List (Nat×SV)}{M:List (Nat×SObj)}{n:Nat}{D:List Deferred}{ops:Array Oper}{i:Nat}{r:List Nat}{k:List Item}{R:Ending→World→Prop}{o:Oper}{f:Operand}{args:Array Operand}{ts:Array TypeId}
  {fv:SV} {g:FuncId} {caps caps2 vs:List SV} {Mc:List (Nat×SObj)} {B:Nat} {is:List Nat} {v:SV} {M1:List (Nat×SObj)} {n1:Nat} (hspec:BSpec c.P g (vs++caps) Mc B is v M1 n1) (hg:jA c.P g)
  (ho:get ops.toList i=some o) (hop:o.op = .call { callee:=.value f,args:=args,argTypes:=ts }) (hw:jE ops.toList (look T) o=some true) (hd:okD c.fn.ntmps o.dst=true)
  (hf:ev (look T) f=some fv) (hfv:jM fv=some (g,caps2)) (vs2:List SV) (hvs:evs (look T) args.toList=some vs2) (rn:Nat→Nat) (hvr:SV.rens rn (vs++caps)=vs2++caps2) (hr :∀i,i<B→rn i<n) (keys:List Nat) (hkeys:Mc.map (·.1)=keys) (hinj :∀i∈keys,∀j∈keys,i≠j→rn i≠rn j) (hB1:B≤n1)
  (hMc:AllP (fun x=>x.1<B∧x.2.sc (· < B)∧(∃o,look M (rn x.1)=some o∧Conv o (x.2.ren rn))∧(x.2.wnd=true∨x.1∈is)∧(x.2.wnd=true→x.1∉is)) Mc) (his :∀i∈is,i<B ∧ ∃o,look Mc i=some o)
  (v2:SV) (M2:List (Nat×SObj)) (n2:Nat) (hv2:v2=v.ren (shR rn B n)) (hn2:n2=n+(n1-B)) (hM2:AllP (fun x=>(look M x.1=some x.2 ∧ ∀i∈is,rn i≠x.1) ∨ ∃i o,shR rn B n i=x.1∧look M1 i=some o∧x.2=o.ren (shR rn B n)∧o.wnd=false) M2)
  (h:Run c ⟨jW T o.dst v2,M2,n2,D,.inRegion ops r::k⟩ R):Run c ⟨T,M,n,D,.inRegion ops (i::r)::k⟩ R:=by
 subst hv2 hn2
 refine Run.pT ho hop hw hd hf hfv hvs hg (fun v' M' n'=>v'=v.ren (shR rn B n)∧M'=M2∧n'=n+(n1-B)) (fun ρ w _ hW=> ?_) (fun v' M' n' hp=> ?_)
 ·obtain⟨L',hL',hWc⟩:=hW.enterA rn Mc B is keys hkeys hinj hMc his
  have hcall:=hspec (ρ.ren rn) w L' hWc fun p hp=>(hL' p hp).1
  rw[←kM,hvr]at hcall
  refine hcall.mono fun e w' ⟨ρ',he,hv,hag,hW'⟩=> ?_
  obtain⟨hW2,hag2⟩:=hW.mergeR hr hW' hB1 hag (fun p hp=>⟨(his _ (hL' p hp).1).1,(hL' p hp).2.2⟩) M2 (fun x hx=>by
   rcases hM2.mem x hx with⟨h1,h2⟩|h1
   ·exact .inl ⟨h1,fun p hp=>h2 _ (hL' p hp).1⟩
   ·exact .inr h1)
  refine⟨ρ.join B n ρ',_,_,_,?_,hag2,by omega,?_,hW2,rfl,rfl,rfl⟩
  ·rw[he,kL,Env.oB hr hag]
  ·refine SV.sc_ren (fun j (hj:j<n1)=> ?_) v hv
   show shR rn B n j<n+(n1-B)
   rcases Nat.lt_or_ge j B with h|h
   ·rw[shR_lt h];have:=hr j h;omega
   ·rw[shR_ge h];omega
 ·obtain⟨rfl,rfl,rfl⟩:=hp;exact h
theorem Run.dummy {c:Cx}{T:List (Nat×SV)}{M:List (Nat×SObj)}{n:Nat}{D:List Deferred}{todo:List Item}{R:Ending→World→Prop}(e:Nat)(te:TypeId)
  (hT :∀x∈T,look T x.1=some x.2) (hM :∀x∈M,look M x.1=some x.2) (h:Run c ⟨T,(n,.row e 0 [] te)::M,n+1,D,todo⟩ R):Run c ⟨T,M,n,D,todo⟩ R:=
 Run.pX e te (fun x hx=>⟨x.2,hT x hx,.inl rfl⟩) (fun x hx=>by
  rcases List.mem_cons.1 hx with rfl|hx
  ·exact .inl rfl
  ·exact .inr ⟨x.2,hM x hx,.inl rfl⟩) h
def emptyRows (e:Nat)(te:TypeId):Nat→Nat→List (Nat×SObj)→List (Nat×SObj)
 | 0,_,M=>M
 |m+1,n,M=>emptyRows e te m (n+1) ((n,.row e 0 [] te)::M)
theorem Run.dummies {c:Cx}{T:List (Nat×SV)}{D:List Deferred}{todo:List Item}{R:Ending→World→Prop}(e:Nat)(te:TypeId)(hT :∀x∈T,look T x.1=some x.2) :
  ∀(m n:Nat) (M:List (Nat×SObj)),(∀x∈M,look M x.1=some x.2)→(∀x∈M,x.1<n)→Run c ⟨T,emptyRows e te m n M,n+m,D,todo⟩ R→Run c ⟨T,M,n,D,todo⟩ R
 | 0,_,_,_,_,h=>h
 |m+1,n,M,hM,hn,h=>by
  refine Run.dummy e te hT hM (Run.dummies e te hT m (n+1) _ (fun x hx=> ?_) (fun x hx=> ?_) ?_)
  ·rcases List.mem_cons.1 hx with rfl|hx
   ·simp[look]
   ·have h1:=hn x hx
    have h2:=hM x hx
    rw[zH,if_neg (by omega)];exact h2
  ·rcases List.mem_cons.1 hx with rfl|hx
   ·show n<n+1;omega
   ·have:=hn x hx;omega
  ·rw[show n+1+m=n+(m+1)by omega];exact h
def zO (b m:Nat):List SV:=(List.range m).map fun r=>.opq (b+r)
theorem tabX_get {b m k:Nat}(h:k<m):(zO b m)[k]? = some (.opq (b+k)):=by simp[zO,h]
theorem qQ {b m n:Nat}(h:b+m≤n):SV.scs (· < n) (zO b m):=by
 have :∀l:List Nat,(∀r∈l,b+r<n)→SV.scs (· < n) (l.map fun r=>SV.opq (b+r)):=by
  intro l
  induction l with
  |nil=>intro _;trivial
  |cons a l ih=>intro hl;exact⟨hl a (by simp),ih fun r hr=>hl r (by simp[hr])⟩
 exact this _ fun r hr=>by have:=List.mem_range.1 hr;omega
theorem tabX_ren {r:Nat→Nat}{b b' m:Nat}(h :∀j,j<m→r (b+j)=b'+j):SV.rens r (zO b m)=zO b' m:=by
 have :∀l:List Nat,(∀j∈l,r (b+j)=b'+j)→SV.rens r (l.map fun r=>SV.opq (b+r))=l.map fun r=>SV.opq (b'+r):=by
  intro l
  induction l with
  |nil=>intro _;rfl
  |cons a l ih=>
   intro hl
   show SV.opq (r (b+a))::SV.rens r (l.map fun r=>SV.opq (b+r))=SV.opq (b'+a)::l.map fun r=>SV.opq (b'+r)
   rw[hl a (by simp),ih fun j hj=>hl j (by simp[hj])]
 exact this _ fun j hj=>h j (List.mem_range.1 hj)
theorem yV {r:Nat→Nat}{b b' m e c:Nat}{te:TypeId}(h :∀j,j<m→r (b+j)=b'+j):(SObj.row e c (zO b m) te).ren r = .row e c (zO b' m) te:=by
 show SObj.row e c (SV.rens r (zO b m)) te=_
 rw[tabX_ren h]
def cN (m N k:Nat):Nat:=if k<m then N else 0
def putF {α : Type}(F:Nat → α)(k:Nat)(x : α):Nat → α :=fun j=>if j=k then x else F j
theorem Run.appendO {c:Cx}(hc:c.ok){T:List (Nat×SV)}{M:List (Nat×SObj)}{n:Nat}{D:List Deferred}{ops:Array Oper}{i:Nat}{r:List Nat}{k:List Item}{R:Ending→World→Prop}{o:Oper}{x y:Operand}{t:TypeId}
  (ho:get ops.toList i=some o) (hop:o.op = .call { callee:=.builtin .append,args:= #[x,y],argTypes:= #[t,t] }) (hw:jE ops.toList (look T) o=some true) (hd:okD c.fn.ntmps o.dst=true)
  {j e m:Nat} {xs:List SV} {te:TypeId} (hx:ev (look T) x=some (.opq j)) (hj:look M j=some (.row e m xs te))
  {j2 len:Nat} {news:List SV} {te2:TypeId} (hy:ev (look T) y=some (.opq j2)) (hj2:look M j2=some (.row e len news te2)) (hlen:0<len) (hone:x6 news=true)
  {ti tie:TI} {bytes:Nat} (hti:look c.tab t=some ti) (hsh:ti.sh = .slc te e bytes) (hte:look c.tab te=some tie) (hz:tie.zero.length=e) (he:0<e)
  (hfit:(m+len)*bytes≤140737488355328∧m+len<9223372036854775808) (M':List (Nat×SObj)) (hM' :∀p∈M',look M p.1=some p.2∧p.1≠j)
  (h:Run c ⟨jW T o.dst (.opq n),(n,.row e (m+len) (xs++news) te)::M',n+1,D,.inRegion ops r::k⟩ R):Run c ⟨T,M,n,D,.inRegion ops (i::r)::k⟩ R:=by
 refine⟨fun ρ a w hi=> ?_⟩
 rw[zL,Array.getElem?_toList]at ho
 refine TW.op ho (z7 hi.tm hw) ?_
 obtain⟨h1,_⟩:=qT hi.tm hx
 obtain⟨h2,_⟩:=qT hi.tm hy
 have hti:=Tab.ok_look hc.tab hti
 have hte:=Tab.ok_look hc.tab hte
 obtain⟨d,hd1,hd2⟩:=hti.desc
 obtain⟨inf,rfl,g2,g3,g4⟩:=sh_desc.2.2.2.2.1 te e bytes (hd2.trans hsh)
 obtain⟨inf',z,i1,_,i3,i4⟩:=hte.infos
 rw[g2]at i1
 obtain rfl:=Option.some.inj i1
 have hzs:z.cells.size=e:=by rw[←hz,←i4];simp
 obtain⟨_,hscr,_⟩:=hi.wi.mem j _ hj
 obtain⟨_,hscn,_⟩:=hi.wi.mem j2 _ hj2
 obtain⟨hvl,p,cap,hv,hcap,hp⟩:=hi.wi.rowsAtR hj2 he
 have hp2 :∃blk off,p=some ⟨blk,off,none⟩ ∧ ∀jj u,(SV.concs ρ news)[jj]? = some u→w.cell? ⟨blk,off+jj,none⟩=some u:=by
  rcases hp with hp|⟨blk,off,h3,_,h4⟩
  ·omega
  ·exact⟨blk,off,h3,h4⟩
 obtain⟨blk,off,rfl,hcells⟩:=hp2
 rw[hv]at h2
 have hcell :∀jj u,(SV.concs ρ news)[jj]? = some u→w.cell? ((⟨blk,off,none⟩:Addr).add jj)=some u:=fun jj u hu=>by
  rw[jL];exact hcells jj u hu
 have hone' :∀u∈SV.concs ρ news,u.oneCell'=true:=by
  intro u hu
  rw[zT]at hu
  obtain⟨v,hv,rfl⟩:=List.mem_map.1 hu
  exact gB (vC hone v hv)
 have hown:=hi.wi.owns hj he
 obtain⟨v',w',row,r1,r2,r3,r4,r5⟩:=xP (P:=c.P) w t o.type te inf z e hd1 g2 i3 g3 hzs he _ m _ hown ⟨blk,off,none⟩ len cap (SV.concs ρ news) hvl hcell hone' (by simp only[maxLen];omega) (by rw[g4];exact hfit.1)
 have hrun:(execOp a.eval o).run c.P w = .ok (.value v') w':=by
  simp only[SV.conc]at h1 r1
  simp[execOp,hop,resolve,invoke,builtin,h1,h2,r1]
 rw[←jJ]at r2
 have hsub :∀kk oo,look M' kk=some oo→look M kk=some oo:=fun kk oo hk=>(hM' _ (qH hk)).1
 have hjocc :∀b,((SV.opq j).conc ρ).ownBlock=some b→(SObj.row e m xs te).occ ρ j∧ρ.s j=b:=by
  intro b hb
  obtain⟨_,_,_,_,hh⟩:=hi.wi.mem j _ hj
  rcases hh with⟨hh,_⟩|⟨cap',sp,hh,_⟩
  ·simp[SV.conc,hh,Value.ownBlock]at hb
  ·simp only[SV.conc,hh,Value.ownBlock,Option.some.injEq]at hb
   exact⟨by simp[SObj.occ,hh],hb⟩
 obtain⟨hW',hag⟩:=hi.wi.rowTo hsub (i:=n) (Nat.lt_irrefl n) (xs:=xs++news) (t:=te) (e:=e) (n:=m+len) r3 (fun b hb=>by
  rcases r4 with r4|r4
  ·rw[r4]at hb;cases hb
  ·rw[r4]at hb
   obtain⟨hocc,hs⟩:=hjocc b hb
   refine⟨fun kk oo hk ck=> ?_,?_⟩
   ·rw[←hs]
    exact hi.wi.dist kk j oo _ (hsub kk oo hk) hj (hM' _ (qH hk)).2 ck hocc
   ·rw[←hs];exact hi.wi.new j _ hj hocc) r5 r2 (jD hscr hscn)
 refine Oc.value hrun ?_
 have hW2:WI c.w0 c.L (ρ.bindV n v') (look ((n,.row e (m+len) (xs++news) te)::M')) (· < n+1) w':=by
  rw[zD];exact hW'.mono fun q hq=>by have hq:q<n∨q=n:=hq;omega
 have hinv:=hi.put (ρ':=ρ.bindV n v') hd hag (Nat.le_succ n) (v:=.opq n) (Nat.lt_succ_self n) hW2 (.inRegion ops r::k)
 rw[yH r2]at hinv
 exact h.go _ _ w' hinv
set_option maxHeartbeats 4000000
theorem Run.sliceRow {c:Cx}(hc:c.ok){T:List (Nat×SV)}{M:List (Nat×SObj)}{n:Nat}{D:List Deferred}{ops:Array Oper}{i:Nat}{r:List Nat}{k:List Item}{R:Ending→World→Prop}{o:Oper}{x y:Operand}{t:TypeId}
  (ho:get ops.toList i=some o) (hop:o.op = .slice t x none (some y) none) (hw:jE ops.toList (look T) o=some true) (hd:okD c.fn.ntmps o.dst=true)
  {j e m:Nat} {xs:List SV} {te:TypeId} (hx:ev (look T) x=some (.opq j)) (hj:look M j=some (.row e m xs te)) {kd:IntKind} {l:Nat} (hy:ev (look T) y=some (.v (.int kd (l:Int)))) (hl:l≤m)
  {ti:TI} {bytes:Nat} (hti:look c.tab t=some ti) (hsh:ti.sh = .slc te e bytes) (he:0<e) (hm:0<m) (M':List (Nat×SObj)) (hM' :∀p∈M',look M p.1=some p.2∧p.1≠j)
  (h:Run c ⟨jW T o.dst (.opq n),(n,.row e l (xs.take (l*e)) te)::M',n+1,D,.inRegion ops r::k⟩ R):Run c ⟨T,M,n,D,.inRegion ops (i::r)::k⟩ R:=by
 refine⟨fun ρ a w hi=> ?_⟩
 rw[zL,Array.getElem?_toList]at ho
 refine TW.op ho (z7 hi.tm hw) ?_
 obtain⟨h1,_⟩:=qT hi.tm hx
 obtain⟨h2,_⟩:=qT hi.tm hy
 have hti:=Tab.ok_look hc.tab hti
 obtain⟨d,hd1,hd2⟩:=hti.desc
 obtain⟨inf,rfl,g2,g3,g4⟩:=sh_desc.2.2.2.2.1 te e bytes (hd2.trans hsh)
 have hund:c.P.underlying t=some (.slice (c.P.elem t)):=by
  rw[hd1]
  simp[Program.elem,hd1]
 have hel:c.P.elem t=te:=by
  have:=hund.symm.trans hd1
  simpa using this
 have hsz:(sizeOf (c.P.elem t)).run c.P w = .ok e w:=by rw[hel,k8 g2,g3]
 obtain⟨hjn,hscr,hoff,hlen,hrow⟩:=hi.wi.mem j _ hj
 have hown:=hi.wi.owns hj he
 rcases hrow with⟨hh,h0⟩|⟨cap,sp,hh,hcap,hheap⟩
 ·omega
 have hmc:m≤cap:=by
  rcases hown.2 with h3|⟨g,cap',cur,h3,_,_,h4,_⟩
  ·simp[SV.conc,hh]at h3
  ·simp only[SV.conc,hh,Value.slice.injEq]at h3
   omega
 simp only[SV.conc]at h1 h2
 rw[hh]at h1
 have hrun:(execOp a.eval o).run c.P w = .ok (.value (.slice (some ⟨ρ.s j,0,none⟩) l cap)) w:=by
  have hr:=run_slice_h w t (some ⟨ρ.s j,0,none⟩) m cap hund kd (l:Int) (by omega) (by omega)
  rw[hsz]at hr
  have hr':(Instr.sliceAt t (.slice (some ⟨ρ.s j,0,none⟩) m cap) none (some (.int kd (l:Int))) none).run c.P w = .ok (.slice (some ⟨ρ.s j,0,none⟩) l cap) w:=by
   rw[run_sliceAt_slice w t _ _ _ _ hund,hr]
   simp[gY]
  simp[execOp,hop,h1,h2,hr']
 have ho':w.ownsRow 0 te e (.slice (some ⟨ρ.s j,0,none⟩) l cap) l (SV.concs ρ (xs.take (l*e))):=by
  rcases hown.2 with h3|⟨g,cap',cur,h3,h5,h6,h7,h8,h9,h10⟩
  ·simp[SV.conc,hh]at h3
  simp only[SV.conc,hh,Value.slice.injEq,Option.some.injEq,Addr.mk.injEq,and_true,true_and]at h3
  obtain⟨rfl,rfl⟩:=h3
  have hle:l*e≤m*e:=Nat.mul_le_mul_right e hl
  refine⟨by rw[qU,List.length_take,hlen];omega,.inr ⟨_,_,cur,rfl,h5,h6,by omega,h8,h9,?_⟩⟩
  rw[zT,List.map_take,←zT,←h10,List.take_take]
  congr 1
  omega
 have hsub :∀kk oo,look M' kk=some oo→look M kk=some oo:=fun kk oo hk=>(hM' _ (qH hk)).1
 have hocc:(SObj.row e m xs te).occ ρ j:=by simp[SObj.occ,hh]
 obtain⟨hW',hag⟩:=hi.wi.rowTo (w':=w) (M1:=look M') hsub (i:=n) (Nat.lt_irrefl n) (v:=.slice (some ⟨ρ.s j,0,none⟩) l cap) (row:=some (ρ.s j)) ⟨rfl,rfl,rfl,Nat.le_refl _,fun _ _ _=>rfl⟩ (fun b hb=>by
  obtain rfl:=Option.some.inj hb
  exact⟨fun kk oo hk ck=>hi.wi.dist kk j oo _ (hsub kk oo hk) hj (hM' _ (qH hk)).2 ck hocc,hi.wi.new j _ hj hocc⟩)
  (fun g hg=>.inl hg) ho' (yN hscr fun x hx=>List.mem_of_mem_take hx)
 refine Oc.value hrun ?_
 have hW2:WI c.w0 c.L (ρ.bindV n (.slice (some ⟨ρ.s j,0,none⟩) l cap)) (look ((n,.row e l (xs.take (l*e)) te)::M')) (· < n+1) w:=by
  rw[zD];exact hW'.mono fun q hq=>by have hq:q<n∨q=n:=hq;omega
 have hinv:=hi.put (ρ':=ρ.bindV n (.slice (some ⟨ρ.s j,0,none⟩) l cap)) hd hag (Nat.le_succ n) (v:=.opq n) (Nat.lt_succ_self n) hW2 (.inRegion ops r::k)
 rw[yH ho']at hinv
 exact h.go _ _ w hinv
set_option maxHeartbeats 2000000
theorem Run.again {c:Cx}{T T':List (Nat×SV)}{M:List (Nat×SObj)}{n:Nat}{D:List Deferred}{todo:List Item}{R:Ending→World→Prop}(q:Nat){e m:Nat}{vs:List Value}(hq:look M q=some (.rwin e m vs))
  (hT :∀x∈T',look T x.1=some x.2∨(look T x.1=some (.opq q)∧x.2 = .opq n)) (h:Run c ⟨T',(n,.rwin e m vs)::M,n+1,D,todo⟩ R):Run c ⟨T,M,n,D,todo⟩ R:=by
 refine⟨fun ρ a w hi=> ?_⟩
 have hn :¬(n<n):=Nat.lt_irrefl n
 have hag:=Env.p8 ρ (ρ.s q) (ρ.o q) (ρ.h q) (S:=(· < n)) hn
 obtain⟨q1,q2,q3⟩:=Env.p9 ρ n (ρ.s q) (ρ.o q) (ρ.h q)
 obtain⟨_,_,hh⟩:=hi.wi.mem q _ hq
 have hW':=hi.wi.addR hag (i:=n) (o:=.rwin e m vs) trivial (fun _ _ h=>h) (by
  simp only[SObj.holds,q1,q2,q3]
  exact hh)
 refine h.go (ρ.bindW n (ρ.s q) (ρ.o q) (ρ.h q)) a w ⟨hi.sz,fun t v ht=> ?_,hi.df,?_⟩
 ·rcases hT _ (qH ht)with h1|⟨h1,h2⟩
  ·obtain⟨g1,g2,g3⟩:=hi.tm t v h1
   exact⟨g1,by rw[jV hag _ g3];exact g2,SV.sc_mono (fun q hq=>by have hq:q<n:=hq;show q<n+1;omega) _ g3⟩
  ·simp only at h2
   subst h2
   obtain⟨g1,g2,g3⟩:=hi.tm t _ h1
   refine⟨g1,?_,Nat.lt_succ_self n⟩
   rw[g2]
   simp only[SV.conc,q3]
 ·rw[zD]
  exact hW'.mono fun q hq=>by have hq:q<n∨q=n:=hq;show q<n+1;omega
theorem kw {M:List (Nat×SObj)}{k e n m:Nat}{vs:List Value}(h:look M k=some (.rwin e m vs))(h2:Nat.blt k n=true):look M k=some (.rwin e m vs)∧k<n∧(SObj.rwin e m vs).sc (· < n):=⟨h,by simpa[Nat.blt_eq]using h2,trivial⟩
theorem Run.p6 {c:Cx}{T T':List (Nat×SV)}{M M':List (Nat×SObj)}{n n':Nat}{D:List Deferred}{todo:List Item}{R:Ending→World→Prop}(h:Run c ⟨T',M',n',D,todo⟩ R)(r:Nat→Nat)(hinj :∀i,i<n' → ∀j,j<n'→i≠j→r i≠r j)(hT:AllP (fun x=>look T x.1=some (x.2.ren r)∧x.2.sc (· < n')) T')
  (hM:AllP (fun x=>look M (r x.1)=some (x.2.ren r)∧x.1<n'∧x.2.sc (· < n')) M') (hL :∀p∈c.L,r p.1=p.1∧p.1<n'):Run c ⟨T,M,n,D,todo⟩ R:=Run.pF r n' hinj hT hM hL h
mutual
def scb (n:Nat):SV→Bool
 | .v _=>true
 | .ptr i _=>Nat.blt i n
 | .slc i _ _ _=>Nat.blt i n
 | .opq i=>Nat.blt i n
 | .mp i=>Nat.blt i n
 | .fn _ caps=>scbs n caps
 | .agg cs=>scbs n cs
 | .tup vs=>scbs n vs
def scbs (n:Nat):List SV→Bool
 | []=>true
 |a::l=>scb n a&&scbs n l
end
mutual
theorem scb_ok {n:Nat} :∀v:SV,scb n v=true→v.sc (· < n)
 | .v _,_=>trivial
 | .ptr i _,h=>by simpa[scb,SV.sc]using h
 | .slc i _ _ _,h=>by simpa[scb,SV.sc]using h
 | .opq i,h=>by simpa[scb,SV.sc]using h
 | .mp i,h=>by simpa[scb,SV.sc]using h
 | .fn _ caps,h=>by simp only[SV.sc];exact zU caps (by simpa[scb]using h)
 | .agg cs,h=>by simp only[SV.sc];exact zU cs (by simpa[scb]using h)
 | .tup vs,h=>by simp only[SV.sc];exact zU vs (by simpa[scb]using h)
theorem zU {n:Nat} :∀l:List SV,scbs n l=true→SV.scs (· < n) l
 | [],_=>trivial
 |a::l,h=>by
  simp only[scbs,Bool.and_eq_true]at h
  exact⟨scb_ok a h.1,zU l h.2⟩
end
theorem kK {α β : Type}{f g : α → β} :∀{l:List α},l.map f=l.map g→AllP (fun x=>f x=g x) l
 | [],_=>trivial
 |a::l,h=>by
  simp only[List.map_cons,List.cons.injEq]at h
  exact⟨h.1,kK h.2⟩
theorem wU {α : Type}{p q : α → Prop} :∀{l:List α},AllP p l→AllP q l→AllP (fun x=>p x∧q x) l
 | [],_,_=>trivial
 |_::_,h,k=>⟨⟨h.1,k.1⟩,wU h.2 k.2⟩
theorem tN {α : Type}{p q : α → Prop}(hpq :∀x,p x→q x) :∀{l:List α},AllP p l→AllP q l
 | [],_=>trivial
 |_::_,h=>⟨hpq _ h.1,tN hpq h.2⟩
theorem xQ {α : Type}{p : α → Prop} :∀{l l':List α},AllP p l→AllP p l'→AllP p (l++l')
 | [],_,_,h=>h
 |_::_,_,h,k=>⟨h.1,xQ h.2 k⟩
theorem uE {α : Type}{p : α → Prop} :∀{l:List α},(∀x∈l,p x)→AllP p l
 | [],_=>trivial
 |a::_,h=>⟨h a (by simp),uE fun x hx=>h x (by simp[hx])⟩
theorem allT_of {n:Nat}{T:List (Nat×SV)}(h:(T.all fun x=>scb n x.2)=true):AllP (fun x=>x.2.sc (· < n)) T:=
 uE fun x hx=>scb_ok x.2 (List.all_eq_true.1 h x hx)
def In (n:Nat)(M:List (Nat×SObj)):Prop:=AllP (fun x=>x.1<n∧x.2.sc (· < n)) M
section
variable {c:Cx} {T T':List (Nat×SV)} {M M':List (Nat×SObj)} {n n':Nat} {D:List Deferred} {todo:List Item} {R:Ending→World→Prop}
theorem Run.r8 (h:Run c ⟨T',M',n',D,todo⟩ R)(hT:T'.map (fun x=>look T x.1)=T'.map fun x=>some x.2)(hTs:(T'.all fun x=>scb n' x.2)=true)
  (hM:M'.map (fun x=>look M x.1)=M'.map fun x=>some x.2) (hMs:In n' M') (hL :∀p∈c.L,p.1<n'):Run c ⟨T,M,n,D,todo⟩ R:=
 Run.r7 n' (wU (kK hT) (allT_of hTs)) (wU (kK hM) hMs) hL h
theorem Run.pN (r:Nat→Nat)(h:Run c ⟨T',M',n',D,todo⟩ R)(hinj :∀i,i<n' → ∀j,j<n'→i≠j→r i≠r j)(hT:T'.map (fun x=>look T x.1)=T'.map fun x=>some (x.2.ren r))(hTs:(T'.all fun x=>scb n' x.2)=true)
  (hM:AllP (fun x=>look M (r x.1)=some (x.2.ren r)) M') (hMs:In n' M') (hL :∀p∈c.L,r p.1=p.1∧p.1<n'):Run c ⟨T,M,n,D,todo⟩ R:=
 Run.pF r n' hinj (wU (kK hT) (allT_of hTs)) (wU hM hMs) hL h
theorem Run.pR {T0:List (Nat×SV)}{M0:List (Nat×SObj)}{n0:Nat}{T:Nat→List (Nat×SV)}{M:Nat→List (Nat×SObj)}(n:Nat)(J:Nat→Prop)(N:Nat)
  (hT:(T 0).map (fun x=>look T0 x.1)=(T 0).map fun x=>some x.2) (hTs:((T 0).all fun x=>scb n x.2)=true) (hM:(M 0).map (fun x=>look M0 x.1)=(M 0).map fun x=>some x.2) (hMs:In n (M 0)) (hL :∀p∈c.L,p.1<n) (h0:J 0)
  (hstep :∀i,i<N→J i→(J (i+1)→Run c ⟨T (i+1),M (i+1),n,D,todo⟩ R)→Run c ⟨T i,M i,n,D,todo⟩ R) (hend:J N→Run c ⟨T N,M N,n,D,todo⟩ R):Run c ⟨T0,M0,n0,D,todo⟩ R:=
 Run.r8 (Run.pD J N h0 hstep hend) hT hTs hM hMs hL
theorem Run.pQ {ops:Array Oper}{i:Nat}{r:List Nat}{k:List Item}{o:Oper}{f:Operand}{args:Array Operand}{ts:Array TypeId}
  {fv:SV} {g:FuncId} {caps2 vs:List SV} {Mc:List (Nat×SObj)} {B:Nat} {is:List Nat} {v:SV} {M1:List (Nat×SObj)} {n1:Nat} (hspec:BSpec c.P g vs Mc B is v M1 n1) (hg:jA c.P g)
  (ho:get ops.toList i=some o) (hop:o.op = .call { callee:=.value f,args:=args,argTypes:=ts }) (hw:jE ops.toList (look T) o=some true) (hd:okD c.fn.ntmps o.dst=true)
  (hf:ev (look T) f=some fv) (hfv:jM fv=some (g,caps2)) (hc2:caps2=[]) (vs2:List SV) (hvs:evs (look T) args.toList=some vs2) (rn:Nat→Nat) (hvr:SV.rens rn vs=vs2) (hr :∀i,i<B→rn i<n) (keys:List Nat) (hkeys:Mc.map (·.1)=keys) (hinj :∀i∈keys,∀j∈keys,i≠j→rn i≠rn j) (hB1:Nat.ble B n1=true)
  (hA:In B Mc) (hW:(Mc.all fun x=>x.2.wnd != is.contains x.1)=true) (hC:AllP (fun x=> ∃o,look M (rn x.1)=some o∧Conv o (x.2.ren rn)) Mc) (his :∀i∈is,i∈keys)
  (v2:SV) (News Keep:List (Nat×SObj)) (n2:Nat) (hv2:v2=v.ren (shR rn B n)) (hn2:n2=n+(n1-B)) (hN:AllP (fun x=> ∃i o,shR rn B n i=x.1∧look M1 i=some o∧x.2=o.ren (shR rn B n)∧o.wnd=false) News)
  (hK1:Keep.map (fun x=>look M x.1)=Keep.map fun x=>some x.2) (hK2:(Keep.all fun x=> !((is.map rn).contains x.1))=true)
  (h:Run c ⟨jW T o.dst v2,News++Keep,n2,D,.inRegion ops r::k⟩ R):Run c ⟨T,M,n,D,.inRegion ops (i::r)::k⟩ R:=by
 subst hc2
 have hAm:=AllP.mem hA
 refine Run.callA (caps:=[]) (caps2:=[]) (vs:=vs) (by rw[List.append_nil];exact hspec) hg ho hop hw hd hf hfv vs2 hvs rn (by rw[List.append_nil,List.append_nil];exact hvr) hr keys hkeys hinj (Nat.le_of_ble_eq_true hB1)
  (uE fun x hx=> ?_) (fun i hi=> ?_) v2 (News++Keep) n2 hv2 hn2 (xQ (tN (fun x hx=>.inr hx) hN) (uE fun x hx=>.inl ⟨(kK hK1).mem x hx,fun i hi he=> ?_⟩)) h
 ·obtain⟨h1,h2⟩:=hAm x hx
  have h3:=List.all_eq_true.1 hW x hx
  refine⟨h1,h2,hC.mem x hx,?_,fun hw hm=> ?_⟩
  ·cases hw:x.2.wnd
   ·right
    rw[hw]at h3
    simpa using h3
   ·exact .inl rfl
  ·rw[hw]at h3
   simp at h3
   exact h3 hm
 ·have hm:=his i hi
  rw[←hkeys]at hm
  obtain⟨x,hx,rfl⟩:=List.mem_map.1 hm
  refine⟨(hAm x hx).1,?_⟩
  exact uB hx
 ·have h3:=List.all_eq_true.1 hK2 x hx
  simp at h3
  exact h3 i hi he
end
end Go.Sx
namespace Go.Proofs.Ytnnlpdgnlccbjaa
open Go.Sx
set_option maxRecDepth 100000
set_option maxHeartbeats 8000000
theorem revents_run (vN vS:Value)(n:Net)(vE:Value)(l:List Evt)(w:World)(hn:x4 w vN vS n)(hr:RowsAt w vE 2 l.length (l.flatMap Evt.vals))(h0:0≤n.inp∧n.inp≤100000) :
  Calls Try.prog 84 #[xC vN vS n,vE,.int .i64 10000] w fun e w'=>e = .returned (.int .i64 (j6 n.inp 10000 l))∧Ext w w':=by
 have hc :∀L,Cx.ok ⟨Try.prog,tab,[],84,Try.f84,[],w,L,none⟩:=fun L=>⟨qI,trivial,Try.func84,mixed,fun _ h=>by cases h⟩
 obtain⟨h1,h2⟩:=hn
 obtain⟨N,inp,S⟩:=n
 simp only at h1 h2 h0
 have hrows:AllP (fun x:Value×Nat×Nat×List Value=>RowsAt w x.1 x.2.1 x.2.2.1 x.2.2.2) [(vN,8,N.length,N.flatMap Prm.vals),(vS,4,S.length,S.flatMap Syn.vals),(vE,2,l.length,l.flatMap Evt.vals)]:=⟨h1,h2,hr,trivial⟩
 refine Run.pH Try.func84 rfl _ hrows [.agg [.opq 0,ii inp,.opq 1],.opq 2,ii 10000] [xC vN vS ⟨N,inp,S⟩,vE,.int .i64 10000] [(0,.rwin 8 N.length (N.flatMap Prm.vals)),(1,.rwin 4 S.length (S.flatMap Syn.vals)),(2,.rwin 2 l.length (l.flatMap Evt.vals))] 3 rfl rfl
  (by show [Value.agg [(SV.opq 0).conc _,.int .i64 inp,(SV.opq 1).conc _].toArray,(SV.opq 2).conc _,.int .i64 10000]=_;rw[qN hrows (k:=0) rfl,qN hrows (k:=1) rfl,qN hrows (k:=2) rfl];rfl) (by simp[SV.scs,SV.sc]) rfl (Run.r6 (hc _) 1000 _ ?_)
 conv=>whnf
 have fin :∀x:Int,j6 inp 10000 l=x → ∀{M:List (Nat×SObj)} {n:Nat} {c:Cx},c.w0=w→c.L=[]→RetOk c M n (.v (.int .i64 x)) (fun e w'=>e = .returned (.int .i64 (j6 inp 10000 l))∧Ext w w'):=
  fun x hx M n c hw hL=>⟨fun ρ w' hW _=>⟨by rw[hx];rfl,by rw[hw,hL]at hW;exact hW.toExt⟩⟩
 cases e1:decide (65536<(l.length:Int))
 case true=>
  conv=>whnf
  exact fin 9 (by unfold j6;rw[if_pos (of_decide_eq_true e1)]) rfl rfl
 have e1':=of_decide_eq_false e1
 conv=>whnf
 have hW1:W (10000-1)=9999:=by decide
 have hW2:W (inp-1)=inp-1:=zM (by omega) (by omega)
 have hIn:In 4 [(0,.rwin 8 N.length (N.flatMap Prm.vals)),(1,.rwin 4 S.length (S.flatMap Syn.vals)),(2,.rwin 2 l.length (l.flatMap Evt.vals)),(3,.cells [.opq 0,ii inp,.opq 1] 25)]:=⟨⟨by omega,Os.h _⟩,⟨by omega,Os.h _⟩,⟨by omega,Os.h _⟩,⟨by omega,qE _ rfl⟩,trivial⟩
 refine Run.pR (T:=fun i=>[(1,.opq 2),(2,ii 10000),(3,.ptr 3 0),(6,ii 0),(7,ii ((i:Nat):Int))]) (M:=fun _=>[(0,.rwin 8 N.length (N.flatMap Prm.vals)),(1,.rwin 4 S.length (S.flatMap Syn.vals)),(2,.rwin 2 l.length (l.flatMap Evt.vals)),(3,.cells [.opq 0,ii inp,.opq 1] 25)]) 4 (fun i=> ∀j,j<l.length→j<i→evAt inp 10000 l j=0) l.length rfl rfl rfl hIn (fun p hp=>by cases hp) (fun j _ hj=>by omega) ?_ ?_
 ·intro i hi hJ ih
  refine Run.W1 (hc _) ?_
  conv=>whnf
  rw[decide_eq_true (show((i:Nat):Int)<(l.length:Int)by omega)]
  conv=>whnf
  have hsu:IntKind.i64.wrap (((i:Nat):Int)+1)=((i+1:Nat):Int):=zC (by omega)
  have hgi:l.getD i evt0=l[i]:=by simp[List.getD_eq_getElem?_getD,hi]
  have three :∀x,evAt inp 10000 l i=x→x≠0→j6 inp 10000 l=x:=fun x hx hx0=>by
   unfold j6
   rw[if_neg e1',gI hi (fun j hj hji=>hJ j hj hji) (by rw[hx];exact hx0),hx]
  have a3 :∀(_ :¬(0≤l[i].tick∧l[i].tick≤9999∧0≤l[i].id∧l[i].id≤inp-1)),evAt inp 10000 l i=3:=fun h=>by
   unfold evAt;rw[hgi,hW1,hW2,if_pos];rw[Bool.and_eq_false_iff];simp only[wi];simp;omega
  refine Run.draw (hc _) 33 ?_
  rw[show qC 0 33=qC 0 3++(qC 3 2++(qC 5 2++(qC 7 3++(qC 10 2++(qC 12 4++(qC 16 3++(qC 19 2++(qC 21 3++(qC 24 3++(qC 27 2++qC 29 4))))))))))from rfl]
  simp only[qP]
  conv=>whnf
  refine⟨by omega,?_⟩
  conv=>whnf
  rw[qG (f:=Evt.vals) (l:=l) i 0 rfl rfl rfl rfl Evt.vlen (by rw[qD]) hi (by decide) rfl]
  conv=>whnf
  cases b0:decide (l[i].tick<0)
  case true=>
   conv=>whnf
   refine⟨by kernel_rfl,?_⟩
   refine Run.W1 (hc _) ?_
   conv=>whnf
   exact fin 3 (three 3 (a3 (by have:=of_decide_eq_true b0;omega)) (by decide)) rfl rfl
  conv=>whnf
  refine⟨by omega,?_⟩
  conv=>whnf
  rw[qG (f:=Evt.vals) (l:=l) i 0 rfl rfl rfl rfl Evt.vlen (by rw[qD]) hi (by decide) rfl]
  conv=>whnf
  cases b1:decide (10000≤l[i].tick)
  case true=>
   conv=>whnf
   refine⟨by kernel_rfl,?_⟩
   refine Run.W1 (hc _) ?_
   conv=>whnf
   exact fin 3 (three 3 (a3 (by have:=of_decide_eq_true b1;omega)) (by decide)) rfl rfl
  conv=>whnf
  refine⟨by omega,?_⟩
  conv=>whnf
  rw[qG (f:=Evt.vals) (l:=l) i 1 rfl rfl rfl rfl Evt.vlen (by rw[qD]) hi (by decide) rfl]
  conv=>whnf
  cases b2:decide (l[i].id<0)
  case true=>
   conv=>whnf
   refine⟨by kernel_rfl,?_⟩
   refine Run.W1 (hc _) ?_
   conv=>whnf
   exact fin 3 (three 3 (a3 (by have:=of_decide_eq_true b2;omega)) (by decide)) rfl rfl
  conv=>whnf
  refine⟨by omega,?_⟩
  conv=>whnf
  rw[qG (f:=Evt.vals) (l:=l) i 1 rfl rfl rfl rfl Evt.vlen (by rw[qD]) hi (by decide) rfl]
  conv=>whnf
  cases b3:decide (inp≤l[i].id)
  case true=>
   conv=>whnf
   refine⟨by kernel_rfl,?_⟩
   refine Run.W1 (hc _) ?_
   conv=>whnf
   exact fin 3 (three 3 (a3 (by have:=of_decide_eq_true b3;omega)) (by decide)) rfl rfl
  conv=>whnf
  refine⟨by kernel_rfl,?_⟩
  refine Run.W1 (hc _) ?_
  conv=>whnf
  have b0':=of_decide_eq_false b0
  have b1':=of_decide_eq_false b1
  have b2':=of_decide_eq_false b2
  have b3':=of_decide_eq_false b3
  have aok :∀x,(if 0<i∧(l[i].tick<(l.getD (i-1) evt0).tick∨l[i].tick=(l.getD (i-1) evt0).tick∧l[i].id≤(l.getD (i-1) evt0).id)then(2:Int)else 0)=x→evAt inp 10000 l i=x:=fun x hx=>by
   unfold evAt;rw[hgi,hW1,hW2,if_neg]
   ·exact hx
   ·simp[wi];omega
  by_cases hi0:i=0
  ·subst hi0
   refine Run.draw (hc _) 44 ?_
   conv=>whnf
   refine⟨by kernel_rfl,?_⟩
   refine Run.W1 (hc _) ?_
   conv=>whnf
   have hat:evAt inp 10000 l 0=0:=by exact aok 0 (by rw[if_neg (by omega)])
   exact Run.r8 (ih (upN hJ hat)) (by rw[hsu];rfl) rfl rfl hIn (fun p hp=>by cases hp)
  have hw1:IntKind.i64.wrap ((i:Int)-1)=((i-1:Nat):Int):=by
   rw[show(i:Int)-1=((i-1:Nat):Int)by omega]
   exact zM (by omega) (by omega)
  have hgp:l.getD (i-1) evt0=l[i-1]:=by simp[List.getD_eq_getElem?_getD,show i-1<l.length by omega]
  have hi1:i-1<l.length:=by omega
  refine Run.draw (hc _) 44 ?_
  rw[show qC 0 44=qC 0 2++(qC 2 4++(qC 6 2++(qC 8 4++(qC 12 2++(qC 14 2++(qC 16 3++(qC 19 2++(qC 21 4++(qC 25 2++(qC 27 2++(qC 29 3++(qC 32 2++(qC 34 4++(qC 38 2++qC 40 4))))))))))))))from rfl]
  simp only[qP]
  conv=>whnf
  rw[show decide ((0:Int)<((i:Nat):Int))=true by rw[decide_eq_true_eq];omega]
  conv=>whnf
  refine⟨by omega,?_⟩
  conv=>whnf
  rw[qG (f:=Evt.vals) (l:=l) i 0 rfl rfl rfl rfl Evt.vlen (by rw[qD]) hi (by decide) rfl]
  conv=>whnf
  refine⟨by show 0≤IntKind.i64.wrap ((i:Int)-1)∧IntKind.i64.wrap ((i:Int)-1)<(l.length:Int);rw[hw1];omega,?_⟩
  conv=>whnf
  rw[qG (f:=Evt.vals) (l:=l) (i-1) 0 rfl rfl rfl rfl Evt.vlen (by rw[hw1,qD]) hi1 (by decide) rfl]
  conv=>whnf
  cases q0:decide (l[i].tick<l[i-1].tick)
  case true=>
   conv=>whnf
   refine⟨by kernel_rfl,?_⟩
   refine Run.W1 (hc _) ?_
   conv=>whnf
   exact fin 2 (three 2 (aok 2 (by rw[hgp,if_pos ⟨by omega,.inl (of_decide_eq_true q0)⟩])) (by decide)) rfl rfl
  conv=>whnf
  refine⟨by omega,?_⟩
  conv=>whnf
  rw[qG (f:=Evt.vals) (l:=l) i 0 rfl rfl rfl rfl Evt.vlen (by rw[qD]) hi (by decide) rfl]
  conv=>whnf
  refine⟨by show 0≤IntKind.i64.wrap ((i:Int)-1)∧IntKind.i64.wrap ((i:Int)-1)<(l.length:Int);rw[hw1];omega,?_⟩
  conv=>whnf
  rw[qG (f:=Evt.vals) (l:=l) (i-1) 0 rfl rfl rfl rfl Evt.vlen (by rw[hw1,qD]) hi1 (by decide) rfl]
  conv=>whnf
  cases q1:(l[i].tick==l[i-1].tick)
  case false=>
   conv=>whnf
   refine⟨by kernel_rfl,?_⟩
   refine Run.W1 (hc _) ?_
   conv=>whnf
   have hat:evAt inp 10000 l i=0:=aok 0 (by rw[hgp,if_neg];rintro⟨_,h|h⟩;exact of_decide_eq_false q0 h;simp[h.1]at q1)
   exact Run.r8 (ih (upN hJ hat)) (by rw[hsu];rfl) rfl rfl hIn (fun p hp=>by cases hp)
  conv=>whnf
  refine⟨by omega,?_⟩
  conv=>whnf
  rw[qG (f:=Evt.vals) (l:=l) i 1 rfl rfl rfl rfl Evt.vlen (by rw[qD]) hi (by decide) rfl]
  conv=>whnf
  refine⟨by show 0≤IntKind.i64.wrap ((i:Int)-1)∧IntKind.i64.wrap ((i:Int)-1)<(l.length:Int);rw[hw1];omega,?_⟩
  conv=>whnf
  rw[qG (f:=Evt.vals) (l:=l) (i-1) 1 rfl rfl rfl rfl Evt.vlen (by rw[hw1,qD]) hi1 (by decide) rfl]
  conv=>whnf
  cases q2:decide (l[i].id≤l[i-1].id)
  case true=>
   conv=>whnf
   refine⟨by kernel_rfl,?_⟩
   refine Run.W1 (hc _) ?_
   conv=>whnf
   exact fin 2 (three 2 (aok 2 (by rw[hgp,if_pos ⟨by omega,.inr ⟨by simpa using q1,of_decide_eq_true q2⟩⟩])) (by decide)) rfl rfl
  conv=>whnf
  refine⟨by kernel_rfl,?_⟩
  refine Run.W1 (hc _) ?_
  conv=>whnf
  have hat:evAt inp 10000 l i=0:=aok 0 (by rw[hgp,if_neg];rintro⟨_,h|h⟩;exact of_decide_eq_false q0 h;exact of_decide_eq_false q2 h.2)
  exact Run.r8 (ih (upN hJ hat)) (by rw[hsu];rfl) rfl rfl hIn (fun p hp=>by cases hp)
 ·intro hJ
  refine Run.W1 (hc _) ?_
  conv=>whnf
  rw[decide_eq_false (show ¬((l.length:Nat):Int)<(l.length:Int)by omega)]
  conv=>whnf
  exact fin 0 (by unfold j6;rw[if_neg e1',wK fun j hj=>hJ j hj hj]) rfl rfl
theorem rprizes_run (vR:Value)(rs:List Rul)(vE:Value)(l:List Prz)(w:World)(hR:RowsAt w vR 10 rs.length (rs.flatMap Rul.vals))(hr:RowsAt w vE 3 l.length (l.flatMap Prz.vals)) :
  Calls Try.prog 55 #[vR,vE] w fun e w'=>e = .returned (.int .i64 (jP (rs.length:Int) l))∧Ext w w':=by
 have hc :∀L,Cx.ok ⟨Try.prog,tab,[(47,F3 fun n lo hi=>.bool (wi n lo hi))],55,Try.f55,[],w,L,none⟩:=fun L=>⟨qI,⟨wI,trivial⟩,Try.func55,mixed,fun _ h=>by cases h⟩
 have hrows:AllP (fun x:Value×Nat×Nat×List Value=>RowsAt w x.1 x.2.1 x.2.2.1 x.2.2.2) [(vR,10,rs.length,rs.flatMap Rul.vals),(vE,3,l.length,l.flatMap Prz.vals)]:=⟨hR,hr,trivial⟩
 refine Run.pH Try.func55 rfl _ hrows [.opq 0,.opq 1] [vR,vE] [(0,.rwin 10 rs.length (rs.flatMap Rul.vals)),(1,.rwin 3 l.length (l.flatMap Prz.vals))] 2 rfl rfl
  (by show [(SV.opq 0).conc _,(SV.opq 1).conc _]=_;rw[qN hrows (k:=0) rfl,qN hrows (k:=1) rfl]) (by simp[SV.scs,SV.sc]) rfl (Run.r6 (hc _) 1000 _ ?_)
 conv=>whnf
 have fin :∀x:Int,jP (rs.length:Int) l=x → ∀{M:List (Nat×SObj)} {n:Nat} {c:Cx},c.w0=w→c.L=[]→RetOk c M n (.v (.int .i64 x)) (fun e w'=>e = .returned (.int .i64 (jP (rs.length:Int) l))∧Ext w w'):=
  fun x hx M n c hw hL=>⟨fun ρ w' hW _=>⟨by rw[hx];rfl,by rw[hw,hL]at hW;exact hW.toExt⟩⟩
 cases e1:decide (65536<(l.length:Int))
 case true=>
  conv=>whnf
  exact fin 9 (by unfold jP;rw[if_pos (of_decide_eq_true e1)]) rfl rfl
 have e1':=of_decide_eq_false e1
 conv=>whnf
 have hIn:In 2 [(0,.rwin 10 rs.length (rs.flatMap Rul.vals)),(1,.rwin 3 l.length (l.flatMap Prz.vals))]:=⟨⟨by omega,Os.h _⟩,⟨by omega,Os.h _⟩,trivial⟩
 refine Run.pR (T:=fun i=>[(0,.opq 0),(1,.opq 1),(4,ii 0),(5,ii ((i:Nat):Int))]) (M:=fun _=>[(0,.rwin 10 rs.length (rs.flatMap Rul.vals)),(1,.rwin 3 l.length (l.flatMap Prz.vals))]) 2 (fun i=> ∀j,j<l.length→j<i→pzAt (rs.length:Int) l j=0) l.length rfl rfl rfl hIn (fun p hp=>by cases hp) (fun j _ hj=>by omega) ?_ ?_
 ·intro i hi hJ ih
  refine Run.W1 (hc _) ?_
  conv=>whnf
  rw[decide_eq_true (show((i:Nat):Int)<(l.length:Int)by omega)]
  conv=>whnf
  have hsu:IntKind.i64.wrap (((i:Nat):Int)+1)=((i+1:Nat):Int):=zC (by omega)
  have hgi:l.getD i prz0=l[i]:=by simp[List.getD_eq_getElem?_getD,hi]
  have three :∀x,pzAt (rs.length:Int) l i=x→x≠0→jP (rs.length:Int) l=x:=fun x hx hx0=>by
   unfold jP
   rw[if_neg e1',gI hi (fun j hj hji=>hJ j hj hji) (by rw[hx];exact hx0),hx]
  refine⟨by omega,?_⟩
  conv=>whnf
  rw[qG (f:=Prz.vals) (l:=l) i 0 rfl rfl rfl rfl Prz.vlen (by rw[qD]) hi (by decide) rfl]
  conv=>whnf
  cases b0:wi l[i].tick 0 9999
  case false=>
   conv=>whnf
   exact fin 3 (three 3 (by unfold pzAt W;rw[hgi,b0];rfl) (by decide)) rfl rfl
  conv=>whnf
  refine⟨by omega,?_⟩
  conv=>whnf
  rw[qG (f:=Prz.vals) (l:=l) i 1 rfl rfl rfl rfl Prz.vlen (by rw[qD]) hi (by decide) rfl]
  conv=>whnf
  cases b1:wi l[i].id 0 (IntKind.i64.wrap ((rs.length:Int)-1))
  case false=>
   conv=>whnf
   exact fin 3 (three 3 (by unfold pzAt W;rw[hgi,b0,b1];rfl) (by decide)) rfl rfl
  conv=>whnf
  refine⟨by omega,?_⟩
  conv=>whnf
  rw[qG (f:=Prz.vals) (l:=l) i 2 rfl rfl rfl rfl Prz.vlen (by rw[qD]) hi (by decide) rfl]
  conv=>whnf
  cases b2:wi l[i].val (-128) 127
  case false=>
   conv=>whnf
   exact fin 3 (three 3 (by unfold pzAt W;rw[hgi,b0,b1,b2];rfl) (by decide)) rfl rfl
  conv=>whnf
  have aok :∀x,(if 0<i∧(l[i].tick<(l.getD (i-1) prz0).tick∨l[i].tick=(l.getD (i-1) prz0).tick∧l[i].id≤(l.getD (i-1) prz0).id)then(2:Int)else 0)=x→pzAt (rs.length:Int) l i=x:=fun x hx=>by
   unfold pzAt W;rw[hgi,b0,b1,b2,if_neg (by decide)];exact hx
  by_cases hi0:i=0
  ·subst hi0
   refine Run.draw (hc _) 44 ?_
   conv=>whnf
   refine⟨by kernel_rfl,?_⟩
   refine Run.W1 (hc _) ?_
   conv=>whnf
   have hat:pzAt (rs.length:Int) l 0=0:=by exact aok 0 (by rw[if_neg (by omega)])
   exact Run.r8 (ih (upN hJ hat)) (by rw[hsu];rfl) rfl rfl hIn (fun p hp=>by cases hp)
  have hw1:IntKind.i64.wrap ((i:Int)-1)=((i-1:Nat):Int):=by
   rw[show(i:Int)-1=((i-1:Nat):Int)by omega]
   exact zM (by omega) (by omega)
  have hgp:l.getD (i-1) prz0=l[i-1]:=by simp[List.getD_eq_getElem?_getD,show i-1<l.length by omega]
  have hi1:i-1<l.length:=by omega
  refine Run.draw (hc _) 44 ?_
  rw[show qC 0 44=qC 0 2++(qC 2 4++(qC 6 2++(qC 8 4++(qC 12 2++(qC 14 2++(qC 16 3++(qC 19 2++(qC 21 4++(qC 25 2++(qC 27 2++(qC 29 3++(qC 32 2++(qC 34 4++(qC 38 2++qC 40 4))))))))))))))from rfl]
  simp only[qP]
  conv=>whnf
  rw[show decide ((0:Int)<((i:Nat):Int))=true by rw[decide_eq_true_eq];omega]
  conv=>whnf
  refine⟨by omega,?_⟩
  conv=>whnf
  rw[qG (f:=Prz.vals) (l:=l) i 0 rfl rfl rfl rfl Prz.vlen (by rw[qD]) hi (by decide) rfl]
  conv=>whnf
  refine⟨by show 0≤IntKind.i64.wrap ((i:Int)-1)∧IntKind.i64.wrap ((i:Int)-1)<(l.length:Int);rw[hw1];omega,?_⟩
  conv=>whnf
  rw[qG (f:=Prz.vals) (l:=l) (i-1) 0 rfl rfl rfl rfl Prz.vlen (by rw[hw1,qD]) hi1 (by decide) rfl]
  conv=>whnf
  cases q0:decide (l[i].tick<l[i-1].tick)
  case true=>
   conv=>whnf
   refine⟨by kernel_rfl,?_⟩
   refine Run.W1 (hc _) ?_
   conv=>whnf
   exact fin 2 (three 2 (aok 2 (by rw[hgp,if_pos ⟨by omega,.inl (of_decide_eq_true q0)⟩])) (by decide)) rfl rfl
  conv=>whnf
  refine⟨by omega,?_⟩
  conv=>whnf
  rw[qG (f:=Prz.vals) (l:=l) i 0 rfl rfl rfl rfl Prz.vlen (by rw[qD]) hi (by decide) rfl]
  conv=>whnf
  refine⟨by show 0≤IntKind.i64.wrap ((i:Int)-1)∧IntKind.i64.wrap ((i:Int)-1)<(l.length:Int);rw[hw1];omega,?_⟩
  conv=>whnf
  rw[qG (f:=Prz.vals) (l:=l) (i-1) 0 rfl rfl rfl rfl Prz.vlen (by rw[hw1,qD]) hi1 (by decide) rfl]
  conv=>whnf
  cases q1:(l[i].tick==l[i-1].tick)
  case false=>
   conv=>whnf
   refine⟨by kernel_rfl,?_⟩
   refine Run.W1 (hc _) ?_
   conv=>whnf
   have hat:pzAt (rs.length:Int) l i=0:=aok 0 (by rw[hgp,if_neg];rintro⟨_,h|h⟩;exact of_decide_eq_false q0 h;simp[h.1]at q1)
   exact Run.r8 (ih (upN hJ hat)) (by rw[hsu];rfl) rfl rfl hIn (fun p hp=>by cases hp)
  conv=>whnf
  refine⟨by omega,?_⟩
  conv=>whnf
  rw[qG (f:=Prz.vals) (l:=l) i 1 rfl rfl rfl rfl Prz.vlen (by rw[qD]) hi (by decide) rfl]
  conv=>whnf
  refine⟨by show 0≤IntKind.i64.wrap ((i:Int)-1)∧IntKind.i64.wrap ((i:Int)-1)<(l.length:Int);rw[hw1];omega,?_⟩
  conv=>whnf
  rw[qG (f:=Prz.vals) (l:=l) (i-1) 1 rfl rfl rfl rfl Prz.vlen (by rw[hw1,qD]) hi1 (by decide) rfl]
  conv=>whnf
  cases q2:decide (l[i].id≤l[i-1].id)
  case true=>
   conv=>whnf
   refine⟨by kernel_rfl,?_⟩
   refine Run.W1 (hc _) ?_
   conv=>whnf
   exact fin 2 (three 2 (aok 2 (by rw[hgp,if_pos ⟨by omega,.inr ⟨by simpa using q1,of_decide_eq_true q2⟩⟩])) (by decide)) rfl rfl
  conv=>whnf
  refine⟨by kernel_rfl,?_⟩
  refine Run.W1 (hc _) ?_
  conv=>whnf
  have hat:pzAt (rs.length:Int) l i=0:=aok 0 (by rw[hgp,if_neg];rintro⟨_,h|h⟩;exact of_decide_eq_false q0 h;exact of_decide_eq_false q2 h.2)
  exact Run.r8 (ih (upN hJ hat)) (by rw[hsu];rfl) rfl rfl hIn (fun p hp=>by cases hp)
 ·intro hJ
  refine Run.W1 (hc _) ?_
  conv=>whnf
  rw[decide_eq_false (show ¬((l.length:Nat):Int)<(l.length:Int)by omega)]
  conv=>whnf
  exact fin 0 (by unfold jP;rw[if_neg e1',wK fun j hj=>hJ j hj hj]) rfl rfl
set_option maxHeartbeats 16000000
def zF (i N:Nat)(k:Nat):List Int:=if k<i then List.replicate N 0 else []
def rsStep (S:List Syn)(pl:List Int)(m:List Mrk)(F:Nat→List Int)(i:Nat):Nat→List Int:=
 if 0≤pl.getD i (-1)then putF F (pl.getD i (-1)).toNat ((F (pl.getD i (-1)).toNat).set (S.getD i qY).to.toNat (W ((F (pl.getD i (-1)).toNat).getD (S.getD i qY).to.toNat 0+(m.getD i qM).w)))else F
def rsY (S:List Syn)(pl:List Int)(m:List Mrk)(R N j:Nat):Nat→List Int:=(List.range j).foldl (rsStep S pl m) (zF R N)
def rsL (S:List Syn)(pl:List Int)(m:List Mrk)(R N:Nat):Nat→List Int:=rsY S pl m R N pl.length
theorem rsY_succ (S:List Syn)(pl:List Int)(m:List Mrk)(R N j:Nat):rsY S pl m R N (j+1)=rsStep S pl m (rsY S pl m R N j) j:=kA ..
theorem u1 (S:List Syn)(pl:List Int)(m:List Mrk)(R N:Nat) :∀j k,(rsY S pl m R N j k).length=cN R N k
 | 0,k=>by unfold rsY zF cN;simp;split<;>simp
 |j+1,k=>by
  rw[rsY_succ]
  unfold rsStep
  split
  ·unfold putF
   split
   ·subst k;rw[List.length_set];exact u1 S pl m R N j _
   ·exact u1 S pl m R N j _
  ·exact u1 S pl m R N j _
def z9 (tk:SV)(inp:Int):List SV:=[.opq 1,ii inp,.opq 2,.opq 4,.opq 5,.opq 6,.opq 7,tk,.opq 3,.opq 8]
theorem rsums_spec (tk inp:Int)(N:List Prm)(S:List Syn)(rs:List Rul)(pl:List Int)(m:List Mrk)(hN:N.length≤1024)(hS:S.length≤8192)(hR:rs.length≤16)(hp:pl.length=S.length)(hm:m.length=S.length)(hp0 :∀i (h:i<pl.length),pl[i]<(rs.length:Int))(ht0 :∀i (h:i<S.length),0≤S[i].to)(ht1 :∀i (h:i<S.length),S[i].to<(N.length:Int)) :
  BSpec Try.prog 72 [.ptr 0 0] [(0,.cells (z9 (ii tk) inp) 108),(1,.rwin 8 N.length (N.flatMap Prm.vals)),(2,.rwin 4 S.length (S.flatMap Syn.vals)),(4,.rwin 10 rs.length (rs.flatMap Rul.vals)),(5,.rwin 1 pl.length (qB pl)),(6,.rwin 4 m.length (m.flatMap Mrk.vals))] 41 [0] (.opq 41) [(41,.row 1 rs.length (zO 42 rs.length) 27),(42,.row 1 (cN rs.length N.length 0) ((rsL S pl m rs.length N.length 0).map fun x=>ii x) 3),(43,.row 1 (cN rs.length N.length 1) ((rsL S pl m rs.length N.length 1).map fun x=>ii x) 3),(44,.row 1 (cN rs.length N.length 2) ((rsL S pl m rs.length N.length 2).map fun x=>ii x) 3),(45,.row 1 (cN rs.length N.length 3) ((rsL S pl m rs.length N.length 3).map fun x=>ii x) 3),(46,.row 1 (cN rs.length N.length 4) ((rsL S pl m rs.length N.length 4).map fun x=>ii x) 3),(47,.row 1 (cN rs.length N.length 5) ((rsL S pl m rs.length N.length 5).map fun x=>ii x) 3),(48,.row 1 (cN rs.length N.length 6) ((rsL S pl m rs.length N.length 6).map fun x=>ii x) 3),(49,.row 1 (cN rs.length N.length 7) ((rsL S pl m rs.length N.length 7).map fun x=>ii x) 3),(50,.row 1 (cN rs.length N.length 8) ((rsL S pl m rs.length N.length 8).map fun x=>ii x) 3),(51,.row 1 (cN rs.length N.length 9) ((rsL S pl m rs.length N.length 9).map fun x=>ii x) 3),(52,.row 1 (cN rs.length N.length 10) ((rsL S pl m rs.length N.length 10).map fun x=>ii x) 3),(53,.row 1 (cN rs.length N.length 11) ((rsL S pl m rs.length N.length 11).map fun x=>ii x) 3),(54,.row 1 (cN rs.length N.length 12) ((rsL S pl m rs.length N.length 12).map fun x=>ii x) 3),(55,.row 1 (cN rs.length N.length 13) ((rsL S pl m rs.length N.length 13).map fun x=>ii x) 3),(56,.row 1 (cN rs.length N.length 14) ((rsL S pl m rs.length N.length 14).map fun x=>ii x) 3),(57,.row 1 (cN rs.length N.length 15) ((rsL S pl m rs.length N.length 15).map fun x=>ii x) 3),(0,.cells (z9 (ii tk) inp) 108)] 58:=by
 have hc :∀w L' rd,(∀p,rd=some p→p∈L')→Cx.ok ⟨Try.prog,tab,[],72,Try.f72,[],w,L',rd⟩:=fun w L' rd h=>⟨qI,trivial,Try.func72,mixed,h⟩
 refine BSpec.start (tab:=tab) (pf:=[]) (cuts:=[]) Try.func72 rfl ⟨ltb rfl,trivial⟩ rfl fun w L0 plp hL hLB hcov=>Run.r6 (hc w L0 none nofun) 7 _ ?_
 conv=>whnf
 refine Run.pX (T':=[(0,.ptr 0 0),(3,.opq 42)]) (M':=[(42,.row 1 0 [] 27),(0,.cells (z9 (ii tk) inp) 108),(1,.rwin 8 N.length (N.flatMap Prm.vals)),(2,.rwin 4 S.length (S.flatMap Syn.vals)),(4,.rwin 10 rs.length (rs.flatMap Rul.vals)),(5,.rwin 1 pl.length (qB pl)),(6,.rwin 4 m.length (m.flatMap Mrk.vals)),(41,.pin plp)]) 1 27 (AllP.mem ⟨⟨_,rfl,.inl rfl⟩,⟨_,rfl,.inr ⟨rfl,rfl⟩⟩,trivial⟩) (AllP.mem (by repeat first|exact trivial|refine⟨.inl rfl,?_⟩|refine⟨.inr ⟨_,rfl,.inl rfl⟩,?_⟩)) ?_
 refine Run.dummies (T:=[(0,.ptr 0 0),(3,.opq 42)]) 1 3 (AllP.mem ⟨rfl,rfl,trivial⟩) 16 43 _ (AllP.mem ⟨rfl,rfl,rfl,rfl,rfl,rfl,rfl,rfl,trivial⟩) (AllP.mem ⟨(show 42<43 by decide),(show 0<43 by decide),(show 1<43 by decide),(show 2<43 by decide),(show 4<43 by decide),(show 5<43 by decide),(show 6<43 by decide),ltb rfl,trivial⟩) ?_
 refine Run.r6 (hc w L0 none nofun) 10 _ ?_
 conv=>whnf
 refine Run.pF (T':=[(0,.ptr 0 0),(3,.opq 58),(4,ii (((0:Nat):Nat):Int))]) (M':=[(58,.row 1 0 (zO 42 0) 27),(42,.row 1 (cN 0 N.length 0) ((zF 0 N.length 0).map fun x=>ii x) 3),(43,.row 1 (cN 0 N.length 1) ((zF 0 N.length 1).map fun x=>ii x) 3),(44,.row 1 (cN 0 N.length 2) ((zF 0 N.length 2).map fun x=>ii x) 3),(45,.row 1 (cN 0 N.length 3) ((zF 0 N.length 3).map fun x=>ii x) 3),(46,.row 1 (cN 0 N.length 4) ((zF 0 N.length 4).map fun x=>ii x) 3),(47,.row 1 (cN 0 N.length 5) ((zF 0 N.length 5).map fun x=>ii x) 3),(48,.row 1 (cN 0 N.length 6) ((zF 0 N.length 6).map fun x=>ii x) 3),(49,.row 1 (cN 0 N.length 7) ((zF 0 N.length 7).map fun x=>ii x) 3),(50,.row 1 (cN 0 N.length 8) ((zF 0 N.length 8).map fun x=>ii x) 3),(51,.row 1 (cN 0 N.length 9) ((zF 0 N.length 9).map fun x=>ii x) 3),(52,.row 1 (cN 0 N.length 10) ((zF 0 N.length 10).map fun x=>ii x) 3),(53,.row 1 (cN 0 N.length 11) ((zF 0 N.length 11).map fun x=>ii x) 3),(54,.row 1 (cN 0 N.length 12) ((zF 0 N.length 12).map fun x=>ii x) 3),(55,.row 1 (cN 0 N.length 13) ((zF 0 N.length 13).map fun x=>ii x) 3),(56,.row 1 (cN 0 N.length 14) ((zF 0 N.length 14).map fun x=>ii x) 3),(57,.row 1 (cN 0 N.length 15) ((zF 0 N.length 15).map fun x=>ii x) 3),(0,.cells (z9 (ii tk) inp) 108),(1,.rwin 8 N.length (N.flatMap Prm.vals)),(2,.rwin 4 S.length (S.flatMap Syn.vals)),(4,.rwin 10 rs.length (rs.flatMap Rul.vals)),(5,.rwin 1 pl.length (qB pl)),(6,.rwin 4 m.length (m.flatMap Mrk.vals)),(41,.pin plp)]) (rq [(42,58),(58,42)]) 62 ?_ ?_ ?_ ?_ ?_
 ·intro i hi j hj hne he
  have inv :∀i,i<62→rq [(42,58),(58,42)] (rq [(42,58),(58,42)] i)=i:=by decide
  exact hne (by rw[←inv i hi,he,inv j hj])
 ·exact⟨⟨rfl,ltb rfl⟩,⟨rfl,ltb rfl⟩,⟨rfl,trivial⟩,trivial⟩
 ·exact(by repeat first|exact trivial|refine⟨⟨rfl,by omega,qQ (by omega)⟩,?_⟩|refine⟨⟨rfl,by omega,Os.h _⟩,?_⟩|refine⟨⟨rfl,by omega,qE _ rfl⟩,?_⟩|refine⟨⟨congrArg some (jO hcov (fun i hi=>zA (qS (B:=41) rfl hi))).symm,by omega,pnx hcov rfl⟩,?_⟩)
 ·intro p hp
  have:=hLB p hp;exact⟨zA (qS (B:=41) rfl this),by omega⟩
 refine Run.pD (T:=fun i=>[(0,.ptr 0 0),(3,.opq 58),(4,ii ((i:Nat):Int))]) (M:=fun i=>[(58,.row 1 i (zO 42 i) 27),(42,.row 1 (cN i N.length 0) ((zF i N.length 0).map fun x=>ii x) 3),(43,.row 1 (cN i N.length 1) ((zF i N.length 1).map fun x=>ii x) 3),(44,.row 1 (cN i N.length 2) ((zF i N.length 2).map fun x=>ii x) 3),(45,.row 1 (cN i N.length 3) ((zF i N.length 3).map fun x=>ii x) 3),(46,.row 1 (cN i N.length 4) ((zF i N.length 4).map fun x=>ii x) 3),(47,.row 1 (cN i N.length 5) ((zF i N.length 5).map fun x=>ii x) 3),(48,.row 1 (cN i N.length 6) ((zF i N.length 6).map fun x=>ii x) 3),(49,.row 1 (cN i N.length 7) ((zF i N.length 7).map fun x=>ii x) 3),(50,.row 1 (cN i N.length 8) ((zF i N.length 8).map fun x=>ii x) 3),(51,.row 1 (cN i N.length 9) ((zF i N.length 9).map fun x=>ii x) 3),(52,.row 1 (cN i N.length 10) ((zF i N.length 10).map fun x=>ii x) 3),(53,.row 1 (cN i N.length 11) ((zF i N.length 11).map fun x=>ii x) 3),(54,.row 1 (cN i N.length 12) ((zF i N.length 12).map fun x=>ii x) 3),(55,.row 1 (cN i N.length 13) ((zF i N.length 13).map fun x=>ii x) 3),(56,.row 1 (cN i N.length 14) ((zF i N.length 14).map fun x=>ii x) 3),(57,.row 1 (cN i N.length 15) ((zF i N.length 15).map fun x=>ii x) 3),(0,.cells (z9 (ii tk) inp) 108),(1,.rwin 8 N.length (N.flatMap Prm.vals)),(2,.rwin 4 S.length (S.flatMap Syn.vals)),(4,.rwin 10 rs.length (rs.flatMap Rul.vals)),(5,.rwin 1 pl.length (qB pl)),(6,.rwin 4 m.length (m.flatMap Mrk.vals)),(41,.pin plp)]) (fun _=>True) rs.length trivial ?_ ?_
 ·intro u hu _ ih
  refine Run.W2 hc ?_
  conv=>whnf
  rw[decide_eq_true (show((u:Nat):Int)<(rs.length:Int)by omega)]
  conv=>whnf
  rw[kW (m:=N.length) rfl rfl rfl rfl rfl rfl (by omega) (by omega),show List.replicate N.length (SV.v (.int .i64 0))=(List.replicate N.length (0:Int)).map fun x=>ii x by simp[ii]]
  conv=>whnf
  refine Run.append (hc w L0 none nofun) rfl rfl rfl rfl rfl rfl rfl rfl rfl rfl rfl rfl rfl rfl rfl (by decide) ⟨by omega,by omega⟩ [(42,.row 1 (cN u N.length 0) ((zF u N.length 0).map fun x=>ii x) 3),(43,.row 1 (cN u N.length 1) ((zF u N.length 1).map fun x=>ii x) 3),(44,.row 1 (cN u N.length 2) ((zF u N.length 2).map fun x=>ii x) 3),(45,.row 1 (cN u N.length 3) ((zF u N.length 3).map fun x=>ii x) 3),(46,.row 1 (cN u N.length 4) ((zF u N.length 4).map fun x=>ii x) 3),(47,.row 1 (cN u N.length 5) ((zF u N.length 5).map fun x=>ii x) 3),(48,.row 1 (cN u N.length 6) ((zF u N.length 6).map fun x=>ii x) 3),(49,.row 1 (cN u N.length 7) ((zF u N.length 7).map fun x=>ii x) 3),(50,.row 1 (cN u N.length 8) ((zF u N.length 8).map fun x=>ii x) 3),(51,.row 1 (cN u N.length 9) ((zF u N.length 9).map fun x=>ii x) 3),(52,.row 1 (cN u N.length 10) ((zF u N.length 10).map fun x=>ii x) 3),(53,.row 1 (cN u N.length 11) ((zF u N.length 11).map fun x=>ii x) 3),(54,.row 1 (cN u N.length 12) ((zF u N.length 12).map fun x=>ii x) 3),(55,.row 1 (cN u N.length 13) ((zF u N.length 13).map fun x=>ii x) 3),(56,.row 1 (cN u N.length 14) ((zF u N.length 14).map fun x=>ii x) 3),(57,.row 1 (cN u N.length 15) ((zF u N.length 15).map fun x=>ii x) 3),(0,.cells (z9 (ii tk) inp) 108),(1,.rwin 8 N.length (N.flatMap Prm.vals)),(2,.rwin 4 S.length (S.flatMap Syn.vals)),(4,.rwin 10 rs.length (rs.flatMap Rul.vals)),(5,.rwin 1 pl.length (qB pl)),(6,.rwin 4 m.length (m.flatMap Mrk.vals)),(41,.pin plp),(62,.row 1 N.length ((List.replicate N.length (0:Int)).map fun x=>ii x) 3)] (AllP.mem (by repeat first|exact trivial|refine⟨⟨rfl,(neb rfl)⟩,?_⟩)) ?_
  refine Run.W2 hc ?_
  conv=>whnf
  have hu16:u<16:=by omega
  refine Run.p6 (ih trivial) (rq [(58,64),(64,58),(42+u,62),(62,42+u)]) ?_ ?_ ?_ ?_
  ·intro i hi j hj hne he
   have inv :∀i,i<62→rq [(58,64),(64,58),(42+u,62),(62,42+u)] (rq [(58,64),(64,58),(42+u,62),(62,42+u)] i)=i:=by rcases xR hu16 with rfl|rfl|rfl|rfl|rfl|rfl|rfl|rfl|rfl|rfl|rfl|rfl|rfl|rfl|rfl|rfl<;>decide
   exact hne (by rw[←inv i hi,he,inv j hj])
  ·rcases xR hu16 with rfl|rfl|rfl|rfl|rfl|rfl|rfl|rfl|rfl|rfl|rfl|rfl|rfl|rfl|rfl|rfl<;>exact⟨⟨rfl,ltb rfl⟩,⟨rfl,ltb rfl⟩,⟨rfl,trivial⟩,trivial⟩
  ·rcases xR hu16 with rfl|rfl|rfl|rfl|rfl|rfl|rfl|rfl|rfl|rfl|rfl|rfl|rfl|rfl|rfl|rfl<;>exact(by repeat first|exact trivial|refine⟨⟨rfl,by omega,qQ (by omega)⟩,?_⟩|refine⟨⟨rfl,by omega,qE _ rfl⟩,?_⟩|refine⟨⟨rfl,by omega,Os.h _⟩,?_⟩|refine⟨⟨congrArg some (ofx (o:=.row _ _ (List.map _ _) _) (qK _ _)).symm,by omega,Os.h _⟩,?_⟩|refine⟨⟨congrArg some (jO hcov (fun i hi=>zA (qS (B:=41) rfl hi))).symm,by omega,pnx hcov rfl⟩,?_⟩)
  ·intro p hp
   have:=hLB p hp;rcases xR hu16 with rfl|rfl|rfl|rfl|rfl|rfl|rfl|rfl|rfl|rfl|rfl|rfl|rfl|rfl|rfl|rfl<;>exact⟨zA (qS (B:=41) rfl this),by omega⟩
 ·intro _
  refine Run.W2 hc ?_
  conv=>whnf
  rw[decide_eq_false (show ¬((rs.length:Nat):Int)<(rs.length:Int)by omega)]
  conv=>whnf
  refine Run.lJ (T:=fun i=>[(0,.ptr 0 0),(3,.opq 58),(5,ii ((i:Nat):Int))]) (M:=fun i=>[(58,.row 1 rs.length (zO 42 rs.length) 27),(42,.row 1 (cN rs.length N.length 0) ((rsY S pl m rs.length N.length i 0).map fun x=>ii x) 3),(43,.row 1 (cN rs.length N.length 1) ((rsY S pl m rs.length N.length i 1).map fun x=>ii x) 3),(44,.row 1 (cN rs.length N.length 2) ((rsY S pl m rs.length N.length i 2).map fun x=>ii x) 3),(45,.row 1 (cN rs.length N.length 3) ((rsY S pl m rs.length N.length i 3).map fun x=>ii x) 3),(46,.row 1 (cN rs.length N.length 4) ((rsY S pl m rs.length N.length i 4).map fun x=>ii x) 3),(47,.row 1 (cN rs.length N.length 5) ((rsY S pl m rs.length N.length i 5).map fun x=>ii x) 3),(48,.row 1 (cN rs.length N.length 6) ((rsY S pl m rs.length N.length i 6).map fun x=>ii x) 3),(49,.row 1 (cN rs.length N.length 7) ((rsY S pl m rs.length N.length i 7).map fun x=>ii x) 3),(50,.row 1 (cN rs.length N.length 8) ((rsY S pl m rs.length N.length i 8).map fun x=>ii x) 3),(51,.row 1 (cN rs.length N.length 9) ((rsY S pl m rs.length N.length i 9).map fun x=>ii x) 3),(52,.row 1 (cN rs.length N.length 10) ((rsY S pl m rs.length N.length i 10).map fun x=>ii x) 3),(53,.row 1 (cN rs.length N.length 11) ((rsY S pl m rs.length N.length i 11).map fun x=>ii x) 3),(54,.row 1 (cN rs.length N.length 12) ((rsY S pl m rs.length N.length i 12).map fun x=>ii x) 3),(55,.row 1 (cN rs.length N.length 13) ((rsY S pl m rs.length N.length i 13).map fun x=>ii x) 3),(56,.row 1 (cN rs.length N.length 14) ((rsY S pl m rs.length N.length i 14).map fun x=>ii x) 3),(57,.row 1 (cN rs.length N.length 15) ((rsY S pl m rs.length N.length i 15).map fun x=>ii x) 3),(0,.cells (z9 (ii tk) inp) 108),(1,.rwin 8 N.length (N.flatMap Prm.vals)),(2,.rwin 4 S.length (S.flatMap Syn.vals)),(4,.rwin 10 rs.length (rs.flatMap Rul.vals)),(5,.rwin 1 pl.length (qB pl)),(6,.rwin 4 m.length (m.flatMap Mrk.vals)),(41,.pin plp)]) 62 (fun _=>True) pl.length ⟨⟨rfl,ltb rfl⟩,⟨rfl,ltb rfl⟩,⟨rfl,trivial⟩,trivial⟩ (by repeat first|exact trivial|refine⟨⟨rfl,by omega,qQ (by omega)⟩,?_⟩|refine⟨⟨rfl,by omega,Os.h _⟩,?_⟩|refine⟨⟨rfl,by omega,qE _ rfl⟩,?_⟩|refine⟨⟨rfl,by omega,pnx hcov rfl⟩,?_⟩) (lbx hLB rfl) trivial ?_ ?_
  ·intro u hu _ ih
   refine Run.W2 hc ?_
   conv=>whnf
   rw[decide_eq_true (show((u:Nat):Int)<(pl.length:Int)by omega)]
   conv=>whnf
   refine⟨by omega,?_⟩
   conv=>whnf
   rw[zR u rfl rfl rfl rfl (by rw[qD,Nat.mul_one]) (zZ hu)]
   conv=>whnf
   have hpu:=hp0 u hu
   have hpd:pl.getD u (-1)=pl[u]:=by simp[List.getD_eq_getElem?_getD,hu]
   have hu2:u<S.length:=by omega
   have hu3:u<m.length:=by omega
   have hsd:S.getD u qY=S[u]:=by simp[List.getD_eq_getElem?_getD,hu2]
   have hmd:m.getD u qM=m[u]:=by simp[List.getD_eq_getElem?_getD,hu3]
   have hys:=rsY_succ S pl m rs.length N.length u
   have hlen:=u1 S pl m rs.length N.length u
   obtain⟨y,hy⟩ :∃y,S[u]=y:=⟨_,rfl⟩
   obtain⟨mk,hmk⟩ :∃mk,m[u]=mk:=⟨_,rfl⟩
   have hy0:=ht0 u hu2
   have hy1:=ht1 u hu2
   rw[hy]at hsd hy0 hy1
   rw[hmk]at hmd
   obtain⟨q,hq⟩ :∃q,pl[u]=q:=⟨_,rfl⟩
   rw[hq]at hpu hpd ⊢
   unfold rsStep at hys
   rw[hpd,hsd,hmd]at hys
   obtain⟨F,hF⟩ :∃F,rsY S pl m rs.length N.length u=F:=⟨_,rfl⟩
   rw[hF]at hys hlen ⊢
   cases hq0:decide (0≤q)
   case false=>
    conv=>whnf
    rw[if_neg (of_decide_eq_false hq0)]at hys
    rw[hys]at ih
    exact Run.tH (ih trivial) ⟨⟨rfl,ltb rfl⟩,⟨rfl,ltb rfl⟩,⟨wsx (by omega),trivial⟩,trivial⟩ (by repeat first|exact trivial|refine⟨⟨rfl,by omega,qQ (by omega)⟩,?_⟩|refine⟨⟨rfl,by omega,Os.h _⟩,?_⟩|refine⟨⟨rfl,by omega,qE _ rfl⟩,?_⟩|refine⟨⟨rfl,by omega,pnx hcov rfl⟩,?_⟩) (lbx hLB rfl)
   rw[if_pos (of_decide_eq_true hq0)]at hys
   obtain⟨k,rfl⟩:=Int.eq_ofNat_of_zero_le (of_decide_eq_true hq0)
   have hkR:k<rs.length:=by omega
   rw[show((k:Nat):Int).toNat=k from Int.toNat_natCast k]at hys
   obtain⟨p,hp'⟩:=Int.eq_ofNat_of_zero_le hy0
   rw[hp',show((p:Nat):Int).toNat=p from Int.toNat_natCast p]at hys
   have hpN:p<N.length:=by omega
   have hFk:(F k).length=N.length:=by rw[hlen];unfold cN;rw[if_pos hkR]
   have hgk:((F k).map fun x=>ii x)[p]? = some (ii ((F k).getD p 0)):=by
    rw[List.getElem?_map,List.getElem?_eq_getElem (by omega),List.getD_eq_getElem?_getD,List.getElem?_eq_getElem (by omega)];rfl
   have htk:(zO 42 rs.length)[k]? = some (.opq (42+k)):=tabX_get hkR
   have hk16:k<16:=by omega
   have hcnt:cN rs.length N.length k=N.length:=by unfold cN;rw[if_pos hkR]
   rw[hys]at ih
   conv=>whnf
   refine Run.draw (hc w L0 none nofun) 32 ?_
   rw[show qC 0 32=qC 0 7++(qC 7 1++(qC 8 1++(qC 9 1++(qC 10 7++(qC 17 2++(qC 19 1++(qC 20 1++(qC 21 6++(qC 27 2++(qC 29 2++qC 31 1))))))))))from rfl]
   simp only[qP]
   conv=>whnf
   refine⟨by omega,?_⟩
   conv=>whnf
   rw[zR u rfl rfl rfl rfl (by rw[qD,Nat.mul_one]) (zZ hu),hq]
   conv=>whnf
   refine⟨by omega,?_⟩
   conv=>whnf
   rw[zB k rfl rfl rfl rfl (by rw[qD,Nat.mul_one]) htk]
   conv=>whnf
   refine⟨by omega,?_⟩
   conv=>whnf
   rw[qG (f:=Syn.vals) (l:=S) u 1 rfl rfl rfl rfl Syn.vlen (by rw[qD]) hu2 (by decide) rfl,hy,hp']
   conv=>whnf
   rcases xR hk16 with rfl|rfl|rfl|rfl|rfl|rfl|rfl|rfl|rfl|rfl|rfl|rfl|rfl|rfl|rfl|rfl
   ·refine⟨by omega,?_⟩
    conv=>whnf
    rw[zB p rfl rfl rfl rfl (by rw[qD,Nat.mul_one]) hgk]
    conv=>whnf
    refine⟨by omega,?_⟩
    conv=>whnf
    rw[qG (f:=Mrk.vals) (l:=m) u 0 rfl rfl rfl rfl Mrk.vlen (by rw[qD]) hu3 (by decide) rfl,hmk]
    conv=>whnf
    refine⟨by omega,?_⟩
    conv=>whnf
    rw[zK p rfl rfl rfl rfl rfl (by rw[qD,Nat.mul_one]) (by rw[List.length_map];omega) rfl rfl]
    conv=>whnf
    refine⟨by kernel_rfl,?_⟩
    refine Run.W2 hc ?_
    conv=>whnf
    exact Run.tH (ih trivial) ⟨⟨rfl,ltb rfl⟩,⟨rfl,ltb rfl⟩,⟨wsx (by omega),trivial⟩,trivial⟩ (by repeat first|exact trivial|refine⟨⟨rfl,by omega,qQ (by omega)⟩,?_⟩|refine⟨⟨rfl,by omega,Os.h _⟩,?_⟩|refine⟨⟨rfl,by omega,qE _ rfl⟩,?_⟩|refine⟨⟨rfl,by omega,pnx hcov rfl⟩,?_⟩|refine⟨⟨congrArg some (by rw[show(putF F 0 ((F 0).set p (W ((F 0).getD p 0+mk.w))) 0).map (fun x=>ii x)=((F 0).map fun x=>ii x).set p (ii (W ((F 0).getD p 0+mk.w)))by rw[←List.map_set];rfl];rfl),by omega,Os.h _⟩,?_⟩) (lbx hLB rfl)
   ·refine⟨by omega,?_⟩
    conv=>whnf
    rw[zB p rfl rfl rfl rfl (by rw[qD,Nat.mul_one]) hgk]
    conv=>whnf
    refine⟨by omega,?_⟩
    conv=>whnf
    rw[qG (f:=Mrk.vals) (l:=m) u 0 rfl rfl rfl rfl Mrk.vlen (by rw[qD]) hu3 (by decide) rfl,hmk]
    conv=>whnf
    refine⟨by omega,?_⟩
    conv=>whnf
    rw[zK p rfl rfl rfl rfl rfl (by rw[qD,Nat.mul_one]) (by rw[List.length_map];omega) rfl rfl]
    conv=>whnf
    refine⟨by kernel_rfl,?_⟩
    refine Run.W2 hc ?_
    conv=>whnf
    exact Run.tH (ih trivial) ⟨⟨rfl,ltb rfl⟩,⟨rfl,ltb rfl⟩,⟨wsx (by omega),trivial⟩,trivial⟩ (by repeat first|exact trivial|refine⟨⟨rfl,by omega,qQ (by omega)⟩,?_⟩|refine⟨⟨rfl,by omega,Os.h _⟩,?_⟩|refine⟨⟨rfl,by omega,qE _ rfl⟩,?_⟩|refine⟨⟨rfl,by omega,pnx hcov rfl⟩,?_⟩|refine⟨⟨congrArg some (by rw[show(putF F 1 ((F 1).set p (W ((F 1).getD p 0+mk.w))) 1).map (fun x=>ii x)=((F 1).map fun x=>ii x).set p (ii (W ((F 1).getD p 0+mk.w)))by rw[←List.map_set];rfl];rfl),by omega,Os.h _⟩,?_⟩) (lbx hLB rfl)
   ·refine⟨by omega,?_⟩
    conv=>whnf
    rw[zB p rfl rfl rfl rfl (by rw[qD,Nat.mul_one]) hgk]
    conv=>whnf
    refine⟨by omega,?_⟩
    conv=>whnf
    rw[qG (f:=Mrk.vals) (l:=m) u 0 rfl rfl rfl rfl Mrk.vlen (by rw[qD]) hu3 (by decide) rfl,hmk]
    conv=>whnf
    refine⟨by omega,?_⟩
    conv=>whnf
    rw[zK p rfl rfl rfl rfl rfl (by rw[qD,Nat.mul_one]) (by rw[List.length_map];omega) rfl rfl]
    conv=>whnf
    refine⟨by kernel_rfl,?_⟩
    refine Run.W2 hc ?_
    conv=>whnf
    exact Run.tH (ih trivial) ⟨⟨rfl,ltb rfl⟩,⟨rfl,ltb rfl⟩,⟨wsx (by omega),trivial⟩,trivial⟩ (by repeat first|exact trivial|refine⟨⟨rfl,by omega,qQ (by omega)⟩,?_⟩|refine⟨⟨rfl,by omega,Os.h _⟩,?_⟩|refine⟨⟨rfl,by omega,qE _ rfl⟩,?_⟩|refine⟨⟨rfl,by omega,pnx hcov rfl⟩,?_⟩|refine⟨⟨congrArg some (by rw[show(putF F 2 ((F 2).set p (W ((F 2).getD p 0+mk.w))) 2).map (fun x=>ii x)=((F 2).map fun x=>ii x).set p (ii (W ((F 2).getD p 0+mk.w)))by rw[←List.map_set];rfl];rfl),by omega,Os.h _⟩,?_⟩) (lbx hLB rfl)
   ·refine⟨by omega,?_⟩
    conv=>whnf
    rw[zB p rfl rfl rfl rfl (by rw[qD,Nat.mul_one]) hgk]
    conv=>whnf
    refine⟨by omega,?_⟩
    conv=>whnf
    rw[qG (f:=Mrk.vals) (l:=m) u 0 rfl rfl rfl rfl Mrk.vlen (by rw[qD]) hu3 (by decide) rfl,hmk]
    conv=>whnf
    refine⟨by omega,?_⟩
    conv=>whnf
    rw[zK p rfl rfl rfl rfl rfl (by rw[qD,Nat.mul_one]) (by rw[List.length_map];omega) rfl rfl]
    conv=>whnf
    refine⟨by kernel_rfl,?_⟩
    refine Run.W2 hc ?_
    conv=>whnf
    exact Run.tH (ih trivial) ⟨⟨rfl,ltb rfl⟩,⟨rfl,ltb rfl⟩,⟨wsx (by omega),trivial⟩,trivial⟩ (by repeat first|exact trivial|refine⟨⟨rfl,by omega,qQ (by omega)⟩,?_⟩|refine⟨⟨rfl,by omega,Os.h _⟩,?_⟩|refine⟨⟨rfl,by omega,qE _ rfl⟩,?_⟩|refine⟨⟨rfl,by omega,pnx hcov rfl⟩,?_⟩|refine⟨⟨congrArg some (by rw[show(putF F 3 ((F 3).set p (W ((F 3).getD p 0+mk.w))) 3).map (fun x=>ii x)=((F 3).map fun x=>ii x).set p (ii (W ((F 3).getD p 0+mk.w)))by rw[←List.map_set];rfl];rfl),by omega,Os.h _⟩,?_⟩) (lbx hLB rfl)
   ·refine⟨by omega,?_⟩
    conv=>whnf
    rw[zB p rfl rfl rfl rfl (by rw[qD,Nat.mul_one]) hgk]
    conv=>whnf
    refine⟨by omega,?_⟩
    conv=>whnf
    rw[qG (f:=Mrk.vals) (l:=m) u 0 rfl rfl rfl rfl Mrk.vlen (by rw[qD]) hu3 (by decide) rfl,hmk]
    conv=>whnf
    refine⟨by omega,?_⟩
    conv=>whnf
    rw[zK p rfl rfl rfl rfl rfl (by rw[qD,Nat.mul_one]) (by rw[List.length_map];omega) rfl rfl]
    conv=>whnf
    refine⟨by kernel_rfl,?_⟩
    refine Run.W2 hc ?_
    conv=>whnf
    exact Run.tH (ih trivial) ⟨⟨rfl,ltb rfl⟩,⟨rfl,ltb rfl⟩,⟨wsx (by omega),trivial⟩,trivial⟩ (by repeat first|exact trivial|refine⟨⟨rfl,by omega,qQ (by omega)⟩,?_⟩|refine⟨⟨rfl,by omega,Os.h _⟩,?_⟩|refine⟨⟨rfl,by omega,qE _ rfl⟩,?_⟩|refine⟨⟨rfl,by omega,pnx hcov rfl⟩,?_⟩|refine⟨⟨congrArg some (by rw[show(putF F 4 ((F 4).set p (W ((F 4).getD p 0+mk.w))) 4).map (fun x=>ii x)=((F 4).map fun x=>ii x).set p (ii (W ((F 4).getD p 0+mk.w)))by rw[←List.map_set];rfl];rfl),by omega,Os.h _⟩,?_⟩) (lbx hLB rfl)
   ·refine⟨by omega,?_⟩
    conv=>whnf
    rw[zB p rfl rfl rfl rfl (by rw[qD,Nat.mul_one]) hgk]
    conv=>whnf
    refine⟨by omega,?_⟩
    conv=>whnf
    rw[qG (f:=Mrk.vals) (l:=m) u 0 rfl rfl rfl rfl Mrk.vlen (by rw[qD]) hu3 (by decide) rfl,hmk]
    conv=>whnf
    refine⟨by omega,?_⟩
    conv=>whnf
    rw[zK p rfl rfl rfl rfl rfl (by rw[qD,Nat.mul_one]) (by rw[List.length_map];omega) rfl rfl]
    conv=>whnf
    refine⟨by kernel_rfl,?_⟩
    refine Run.W2 hc ?_
    conv=>whnf
    exact Run.tH (ih trivial) ⟨⟨rfl,ltb rfl⟩,⟨rfl,ltb rfl⟩,⟨wsx (by omega),trivial⟩,trivial⟩ (by repeat first|exact trivial|refine⟨⟨rfl,by omega,qQ (by omega)⟩,?_⟩|refine⟨⟨rfl,by omega,Os.h _⟩,?_⟩|refine⟨⟨rfl,by omega,qE _ rfl⟩,?_⟩|refine⟨⟨rfl,by omega,pnx hcov rfl⟩,?_⟩|refine⟨⟨congrArg some (by rw[show(putF F 5 ((F 5).set p (W ((F 5).getD p 0+mk.w))) 5).map (fun x=>ii x)=((F 5).map fun x=>ii x).set p (ii (W ((F 5).getD p 0+mk.w)))by rw[←List.map_set];rfl];rfl),by omega,Os.h _⟩,?_⟩) (lbx hLB rfl)
   ·refine⟨by omega,?_⟩
    conv=>whnf
    rw[zB p rfl rfl rfl rfl (by rw[qD,Nat.mul_one]) hgk]
    conv=>whnf
    refine⟨by omega,?_⟩
    conv=>whnf
    rw[qG (f:=Mrk.vals) (l:=m) u 0 rfl rfl rfl rfl Mrk.vlen (by rw[qD]) hu3 (by decide) rfl,hmk]
    conv=>whnf
    refine⟨by omega,?_⟩
    conv=>whnf
    rw[zK p rfl rfl rfl rfl rfl (by rw[qD,Nat.mul_one]) (by rw[List.length_map];omega) rfl rfl]
    conv=>whnf
    refine⟨by kernel_rfl,?_⟩
    refine Run.W2 hc ?_
    conv=>whnf
    exact Run.tH (ih trivial) ⟨⟨rfl,ltb rfl⟩,⟨rfl,ltb rfl⟩,⟨wsx (by omega),trivial⟩,trivial⟩ (by repeat first|exact trivial|refine⟨⟨rfl,by omega,qQ (by omega)⟩,?_⟩|refine⟨⟨rfl,by omega,Os.h _⟩,?_⟩|refine⟨⟨rfl,by omega,qE _ rfl⟩,?_⟩|refine⟨⟨rfl,by omega,pnx hcov rfl⟩,?_⟩|refine⟨⟨congrArg some (by rw[show(putF F 6 ((F 6).set p (W ((F 6).getD p 0+mk.w))) 6).map (fun x=>ii x)=((F 6).map fun x=>ii x).set p (ii (W ((F 6).getD p 0+mk.w)))by rw[←List.map_set];rfl];rfl),by omega,Os.h _⟩,?_⟩) (lbx hLB rfl)
   ·refine⟨by omega,?_⟩
    conv=>whnf
    rw[zB p rfl rfl rfl rfl (by rw[qD,Nat.mul_one]) hgk]
    conv=>whnf
    refine⟨by omega,?_⟩
    conv=>whnf
    rw[qG (f:=Mrk.vals) (l:=m) u 0 rfl rfl rfl rfl Mrk.vlen (by rw[qD]) hu3 (by decide) rfl,hmk]
    conv=>whnf
    refine⟨by omega,?_⟩
    conv=>whnf
    rw[zK p rfl rfl rfl rfl rfl (by rw[qD,Nat.mul_one]) (by rw[List.length_map];omega) rfl rfl]
    conv=>whnf
    refine⟨by kernel_rfl,?_⟩
    refine Run.W2 hc ?_
    conv=>whnf
    exact Run.tH (ih trivial) ⟨⟨rfl,ltb rfl⟩,⟨rfl,ltb rfl⟩,⟨wsx (by omega),trivial⟩,trivial⟩ (by repeat first|exact trivial|refine⟨⟨rfl,by omega,qQ (by omega)⟩,?_⟩|refine⟨⟨rfl,by omega,Os.h _⟩,?_⟩|refine⟨⟨rfl,by omega,qE _ rfl⟩,?_⟩|refine⟨⟨rfl,by omega,pnx hcov rfl⟩,?_⟩|refine⟨⟨congrArg some (by rw[show(putF F 7 ((F 7).set p (W ((F 7).getD p 0+mk.w))) 7).map (fun x=>ii x)=((F 7).map fun x=>ii x).set p (ii (W ((F 7).getD p 0+mk.w)))by rw[←List.map_set];rfl];rfl),by omega,Os.h _⟩,?_⟩) (lbx hLB rfl)
   ·refine⟨by omega,?_⟩
    conv=>whnf
    rw[zB p rfl rfl rfl rfl (by rw[qD,Nat.mul_one]) hgk]
    conv=>whnf
    refine⟨by omega,?_⟩
    conv=>whnf
    rw[qG (f:=Mrk.vals) (l:=m) u 0 rfl rfl rfl rfl Mrk.vlen (by rw[qD]) hu3 (by decide) rfl,hmk]
    conv=>whnf
    refine⟨by omega,?_⟩
    conv=>whnf
    rw[zK p rfl rfl rfl rfl rfl (by rw[qD,Nat.mul_one]) (by rw[List.length_map];omega) rfl rfl]
    conv=>whnf
    refine⟨by kernel_rfl,?_⟩
    refine Run.W2 hc ?_
    conv=>whnf
    exact Run.tH (ih trivial) ⟨⟨rfl,ltb rfl⟩,⟨rfl,ltb rfl⟩,⟨wsx (by omega),trivial⟩,trivial⟩ (by repeat first|exact trivial|refine⟨⟨rfl,by omega,qQ (by omega)⟩,?_⟩|refine⟨⟨rfl,by omega,Os.h _⟩,?_⟩|refine⟨⟨rfl,by omega,qE _ rfl⟩,?_⟩|refine⟨⟨rfl,by omega,pnx hcov rfl⟩,?_⟩|refine⟨⟨congrArg some (by rw[show(putF F 8 ((F 8).set p (W ((F 8).getD p 0+mk.w))) 8).map (fun x=>ii x)=((F 8).map fun x=>ii x).set p (ii (W ((F 8).getD p 0+mk.w)))by rw[←List.map_set];rfl];rfl),by omega,Os.h _⟩,?_⟩) (lbx hLB rfl)
   ·refine⟨by omega,?_⟩
    conv=>whnf
    rw[zB p rfl rfl rfl rfl (by rw[qD,Nat.mul_one]) hgk]
    conv=>whnf
    refine⟨by omega,?_⟩
    conv=>whnf
    rw[qG (f:=Mrk.vals) (l:=m) u 0 rfl rfl rfl rfl Mrk.vlen (by rw[qD]) hu3 (by decide) rfl,hmk]
    conv=>whnf
    refine⟨by omega,?_⟩
    conv=>whnf
    rw[zK p rfl rfl rfl rfl rfl (by rw[qD,Nat.mul_one]) (by rw[List.length_map];omega) rfl rfl]
    conv=>whnf
    refine⟨by kernel_rfl,?_⟩
    refine Run.W2 hc ?_
    conv=>whnf
    exact Run.tH (ih trivial) ⟨⟨rfl,ltb rfl⟩,⟨rfl,ltb rfl⟩,⟨wsx (by omega),trivial⟩,trivial⟩ (by repeat first|exact trivial|refine⟨⟨rfl,by omega,qQ (by omega)⟩,?_⟩|refine⟨⟨rfl,by omega,Os.h _⟩,?_⟩|refine⟨⟨rfl,by omega,qE _ rfl⟩,?_⟩|refine⟨⟨rfl,by omega,pnx hcov rfl⟩,?_⟩|refine⟨⟨congrArg some (by rw[show(putF F 9 ((F 9).set p (W ((F 9).getD p 0+mk.w))) 9).map (fun x=>ii x)=((F 9).map fun x=>ii x).set p (ii (W ((F 9).getD p 0+mk.w)))by rw[←List.map_set];rfl];rfl),by omega,Os.h _⟩,?_⟩) (lbx hLB rfl)
   ·refine⟨by omega,?_⟩
    conv=>whnf
    rw[zB p rfl rfl rfl rfl (by rw[qD,Nat.mul_one]) hgk]
    conv=>whnf
    refine⟨by omega,?_⟩
    conv=>whnf
    rw[qG (f:=Mrk.vals) (l:=m) u 0 rfl rfl rfl rfl Mrk.vlen (by rw[qD]) hu3 (by decide) rfl,hmk]
    conv=>whnf
    refine⟨by omega,?_⟩
    conv=>whnf
    rw[zK p rfl rfl rfl rfl rfl (by rw[qD,Nat.mul_one]) (by rw[List.length_map];omega) rfl rfl]
    conv=>whnf
    refine⟨by kernel_rfl,?_⟩
    refine Run.W2 hc ?_
    conv=>whnf
    exact Run.tH (ih trivial) ⟨⟨rfl,ltb rfl⟩,⟨rfl,ltb rfl⟩,⟨wsx (by omega),trivial⟩,trivial⟩ (by repeat first|exact trivial|refine⟨⟨rfl,by omega,qQ (by omega)⟩,?_⟩|refine⟨⟨rfl,by omega,Os.h _⟩,?_⟩|refine⟨⟨rfl,by omega,qE _ rfl⟩,?_⟩|refine⟨⟨rfl,by omega,pnx hcov rfl⟩,?_⟩|refine⟨⟨congrArg some (by rw[show(putF F 10 ((F 10).set p (W ((F 10).getD p 0+mk.w))) 10).map (fun x=>ii x)=((F 10).map fun x=>ii x).set p (ii (W ((F 10).getD p 0+mk.w)))by rw[←List.map_set];rfl];rfl),by omega,Os.h _⟩,?_⟩) (lbx hLB rfl)
   ·refine⟨by omega,?_⟩
    conv=>whnf
    rw[zB p rfl rfl rfl rfl (by rw[qD,Nat.mul_one]) hgk]
    conv=>whnf
    refine⟨by omega,?_⟩
    conv=>whnf
    rw[qG (f:=Mrk.vals) (l:=m) u 0 rfl rfl rfl rfl Mrk.vlen (by rw[qD]) hu3 (by decide) rfl,hmk]
    conv=>whnf
    refine⟨by omega,?_⟩
    conv=>whnf
    rw[zK p rfl rfl rfl rfl rfl (by rw[qD,Nat.mul_one]) (by rw[List.length_map];omega) rfl rfl]
    conv=>whnf
    refine⟨by kernel_rfl,?_⟩
    refine Run.W2 hc ?_
    conv=>whnf
    exact Run.tH (ih trivial) ⟨⟨rfl,ltb rfl⟩,⟨rfl,ltb rfl⟩,⟨wsx (by omega),trivial⟩,trivial⟩ (by repeat first|exact trivial|refine⟨⟨rfl,by omega,qQ (by omega)⟩,?_⟩|refine⟨⟨rfl,by omega,Os.h _⟩,?_⟩|refine⟨⟨rfl,by omega,qE _ rfl⟩,?_⟩|refine⟨⟨rfl,by omega,pnx hcov rfl⟩,?_⟩|refine⟨⟨congrArg some (by rw[show(putF F 11 ((F 11).set p (W ((F 11).getD p 0+mk.w))) 11).map (fun x=>ii x)=((F 11).map fun x=>ii x).set p (ii (W ((F 11).getD p 0+mk.w)))by rw[←List.map_set];rfl];rfl),by omega,Os.h _⟩,?_⟩) (lbx hLB rfl)
   ·refine⟨by omega,?_⟩
    conv=>whnf
    rw[zB p rfl rfl rfl rfl (by rw[qD,Nat.mul_one]) hgk]
    conv=>whnf
    refine⟨by omega,?_⟩
    conv=>whnf
    rw[qG (f:=Mrk.vals) (l:=m) u 0 rfl rfl rfl rfl Mrk.vlen (by rw[qD]) hu3 (by decide) rfl,hmk]
    conv=>whnf
    refine⟨by omega,?_⟩
    conv=>whnf
    rw[zK p rfl rfl rfl rfl rfl (by rw[qD,Nat.mul_one]) (by rw[List.length_map];omega) rfl rfl]
    conv=>whnf
    refine⟨by kernel_rfl,?_⟩
    refine Run.W2 hc ?_
    conv=>whnf
    exact Run.tH (ih trivial) ⟨⟨rfl,ltb rfl⟩,⟨rfl,ltb rfl⟩,⟨wsx (by omega),trivial⟩,trivial⟩ (by repeat first|exact trivial|refine⟨⟨rfl,by omega,qQ (by omega)⟩,?_⟩|refine⟨⟨rfl,by omega,Os.h _⟩,?_⟩|refine⟨⟨rfl,by omega,qE _ rfl⟩,?_⟩|refine⟨⟨rfl,by omega,pnx hcov rfl⟩,?_⟩|refine⟨⟨congrArg some (by rw[show(putF F 12 ((F 12).set p (W ((F 12).getD p 0+mk.w))) 12).map (fun x=>ii x)=((F 12).map fun x=>ii x).set p (ii (W ((F 12).getD p 0+mk.w)))by rw[←List.map_set];rfl];rfl),by omega,Os.h _⟩,?_⟩) (lbx hLB rfl)
   ·refine⟨by omega,?_⟩
    conv=>whnf
    rw[zB p rfl rfl rfl rfl (by rw[qD,Nat.mul_one]) hgk]
    conv=>whnf
    refine⟨by omega,?_⟩
    conv=>whnf
    rw[qG (f:=Mrk.vals) (l:=m) u 0 rfl rfl rfl rfl Mrk.vlen (by rw[qD]) hu3 (by decide) rfl,hmk]
    conv=>whnf
    refine⟨by omega,?_⟩
    conv=>whnf
    rw[zK p rfl rfl rfl rfl rfl (by rw[qD,Nat.mul_one]) (by rw[List.length_map];omega) rfl rfl]
    conv=>whnf
    refine⟨by kernel_rfl,?_⟩
    refine Run.W2 hc ?_
    conv=>whnf
    exact Run.tH (ih trivial) ⟨⟨rfl,ltb rfl⟩,⟨rfl,ltb rfl⟩,⟨wsx (by omega),trivial⟩,trivial⟩ (by repeat first|exact trivial|refine⟨⟨rfl,by omega,qQ (by omega)⟩,?_⟩|refine⟨⟨rfl,by omega,Os.h _⟩,?_⟩|refine⟨⟨rfl,by omega,qE _ rfl⟩,?_⟩|refine⟨⟨rfl,by omega,pnx hcov rfl⟩,?_⟩|refine⟨⟨congrArg some (by rw[show(putF F 13 ((F 13).set p (W ((F 13).getD p 0+mk.w))) 13).map (fun x=>ii x)=((F 13).map fun x=>ii x).set p (ii (W ((F 13).getD p 0+mk.w)))by rw[←List.map_set];rfl];rfl),by omega,Os.h _⟩,?_⟩) (lbx hLB rfl)
   ·refine⟨by omega,?_⟩
    conv=>whnf
    rw[zB p rfl rfl rfl rfl (by rw[qD,Nat.mul_one]) hgk]
    conv=>whnf
    refine⟨by omega,?_⟩
    conv=>whnf
    rw[qG (f:=Mrk.vals) (l:=m) u 0 rfl rfl rfl rfl Mrk.vlen (by rw[qD]) hu3 (by decide) rfl,hmk]
    conv=>whnf
    refine⟨by omega,?_⟩
    conv=>whnf
    rw[zK p rfl rfl rfl rfl rfl (by rw[qD,Nat.mul_one]) (by rw[List.length_map];omega) rfl rfl]
    conv=>whnf
    refine⟨by kernel_rfl,?_⟩
    refine Run.W2 hc ?_
    conv=>whnf
    exact Run.tH (ih trivial) ⟨⟨rfl,ltb rfl⟩,⟨rfl,ltb rfl⟩,⟨wsx (by omega),trivial⟩,trivial⟩ (by repeat first|exact trivial|refine⟨⟨rfl,by omega,qQ (by omega)⟩,?_⟩|refine⟨⟨rfl,by omega,Os.h _⟩,?_⟩|refine⟨⟨rfl,by omega,qE _ rfl⟩,?_⟩|refine⟨⟨rfl,by omega,pnx hcov rfl⟩,?_⟩|refine⟨⟨congrArg some (by rw[show(putF F 14 ((F 14).set p (W ((F 14).getD p 0+mk.w))) 14).map (fun x=>ii x)=((F 14).map fun x=>ii x).set p (ii (W ((F 14).getD p 0+mk.w)))by rw[←List.map_set];rfl];rfl),by omega,Os.h _⟩,?_⟩) (lbx hLB rfl)
   ·refine⟨by omega,?_⟩
    conv=>whnf
    rw[zB p rfl rfl rfl rfl (by rw[qD,Nat.mul_one]) hgk]
    conv=>whnf
    refine⟨by omega,?_⟩
    conv=>whnf
    rw[qG (f:=Mrk.vals) (l:=m) u 0 rfl rfl rfl rfl Mrk.vlen (by rw[qD]) hu3 (by decide) rfl,hmk]
    conv=>whnf
    refine⟨by omega,?_⟩
    conv=>whnf
    rw[zK p rfl rfl rfl rfl rfl (by rw[qD,Nat.mul_one]) (by rw[List.length_map];omega) rfl rfl]
    conv=>whnf
    refine⟨by kernel_rfl,?_⟩
    refine Run.W2 hc ?_
    conv=>whnf
    exact Run.tH (ih trivial) ⟨⟨rfl,ltb rfl⟩,⟨rfl,ltb rfl⟩,⟨wsx (by omega),trivial⟩,trivial⟩ (by repeat first|exact trivial|refine⟨⟨rfl,by omega,qQ (by omega)⟩,?_⟩|refine⟨⟨rfl,by omega,Os.h _⟩,?_⟩|refine⟨⟨rfl,by omega,qE _ rfl⟩,?_⟩|refine⟨⟨rfl,by omega,pnx hcov rfl⟩,?_⟩|refine⟨⟨congrArg some (by rw[show(putF F 15 ((F 15).set p (W ((F 15).getD p 0+mk.w))) 15).map (fun x=>ii x)=((F 15).map fun x=>ii x).set p (ii (W ((F 15).getD p 0+mk.w)))by rw[←List.map_set];rfl];rfl),by omega,Os.h _⟩,?_⟩) (lbx hLB rfl)
  ·intro _
   refine Run.W2 hc ?_
   conv=>whnf
   rw[decide_eq_false (show ¬((pl.length:Nat):Int)<(pl.length:Int)by omega)]
   conv=>whnf
   refine SpecR.pS (rq [(41,58),(58,41)]) (fun i hi=>zA (qS (B:=41) rfl hi)) ?_ (Widens.refl _ _) hLB (by decide) hcov rfl rfl (show 41<58 by decide) (by repeat first|exact trivial|refine⟨⟨rfl,by omega,qE _ rfl⟩,?_⟩|refine⟨⟨congrArg some (yV (r:=rq [(41,58),(58,41)]) (b:=42) (b':=42) (fun j hj=>by have inv :∀j,j<16→rq [(41,58),(58,41)] (42+j)=42+j:=(by decide);exact inv j (by omega))).symm,by omega,qQ (by omega)⟩,?_⟩|refine⟨⟨congrArg some (ofx (o:=.row _ _ (List.map _ _) _) (qK _ _)).symm,by omega,Os.h _⟩,?_⟩)
   intro i hi j hj hne
   have inj :∀i,i<58 → ∀j,j<58→i≠j→rq [(41,58),(58,41)] i≠rq [(41,58),(58,41)] j:=by decide
   exact inj i hi j hj hne
set_option maxHeartbeats 8000000
theorem rbegin_spec (inp:Int):BSpec Try.prog 85 [.agg [.opq 0,ii inp,.v (.slice none 0 0)]] [(0,.rwin 8 1 ([qW].flatMap Prm.vals))] 1 [] (.ptr 1 0) ((1,.cells [.opq 0,ii inp,.v (.slice none 0 0),ii 0,.opq 2,.opq 3] 192)::(2,.row 2 1 [ii 0,ii 0] 139)::(3,.row 1 16 [.opq 4,.opq 5,.opq 6,.opq 7,.opq 8,.opq 9,.opq 10,.opq 11,.opq 12,.opq 13,.opq 14,.opq 15,.opq 16,.opq 17,.opq 18,.opq 19] 27)::(4,.row 1 1 [ii 0] 3)::(5,.row 1 1 [ii 0] 3)::(6,.row 1 1 [ii 0] 3)::(7,.row 1 1 [ii 0] 3)::(8,.row 1 1 [ii 0] 3)::(9,.row 1 1 [ii 0] 3)::(10,.row 1 1 [ii 0] 3)::(11,.row 1 1 [ii 0] 3)::(12,.row 1 1 [ii 0] 3)::(13,.row 1 1 [ii 0] 3)::(14,.row 1 1 [ii 0] 3)::(15,.row 1 1 [ii 0] 3)::(16,.row 1 1 [ii 0] 3)::(17,.row 1 1 [ii 0] 3)::(18,.row 1 1 [ii 0] 3)::(19,.row 1 1 [ii 0] 3)::[]) 20:=by
 have hc :∀w L' rd,(∀p,rd=some p→p∈L')→Cx.ok ⟨Try.prog,tab,[],85,Try.f85,[],w,L',rd⟩:=fun w L' rd h=>⟨qI,trivial,Try.func85,mixed,h⟩
 refine BSpec.start (tab:=tab) (pf:=[]) (cuts:=[]) Try.func85 rfl ⟨⟨(show 0<1 by decide),trivial,trivial,trivial⟩,trivial⟩ rfl fun w L0 plp hL hLB hcov=>Run.r6 (hc w L0 none nofun) 100 _ ?_
 generalize hRR:SpecR _ _ _ _ _ _=RR
 have hL28 :∀p∈L0,p.1<28:=fun p hp=>by have:=hLB p hp;omega
 conv=>whnf
 refine Run.draw (hc w L0 none nofun) 7 ?_
 conv=>whnf
 refine⟨by kernel_rfl,?_⟩
 refine Run.pG (T':=[(1,.ptr 2 0),(2,.v (.pointer none)),(11,.ptr 9 0)]) (M':=((11,.row 1 0 [] 27)::(9,.cells [.opq 0,ii inp,nq,ii 0,.opq 7,.opq 11] 192)::(7,_)::(2,_)::(0,_)::(1,_)::[])) 1 27 (AllP.mem ⟨⟨_,rfl,.inl rfl⟩,⟨_,rfl,.inl rfl⟩,⟨_,rfl,.inl rfl⟩,trivial⟩) (AllP.mem ⟨.inl rfl,.inr ⟨_,rfl,.inr (.inl ⟨_,_,_,rfl,rfl,⟨.inl rfl,.inl rfl,.inl rfl,.inl rfl,.inl rfl,.inr ⟨rfl,rfl⟩,trivial⟩⟩)⟩,.inr ⟨_,rfl,.inl rfl⟩,.inr ⟨_,rfl,.inl rfl⟩,.inr ⟨_,rfl,.inl rfl⟩,.inr ⟨_,rfl,.inl rfl⟩,trivial⟩) ?_
 refine Run.dummies (T:=[(1,.ptr 2 0),(2,.v (.pointer none)),(11,.ptr 9 0)]) 1 3 (AllP.mem ⟨rfl,rfl,rfl,trivial⟩) 16 12 _ (AllP.mem ⟨rfl,rfl,rfl,rfl,rfl,rfl,trivial⟩) (AllP.mem ⟨(show 11<12 by decide),(show 9<12 by decide),(show 7<12 by decide),(show 2<12 by decide),(show 0<12 by decide),ltb rfl,trivial⟩) ?_
 refine Run.r6 (hc w L0 none nofun) 10 _ ?_
 conv=>whnf
 have hL42 :∀p∈L0,p.1<42:=fun p hp=>by have:=hLB p hp;omega
 have hIn :∀i n,i≤16→28≤n→In n ((11,.row 1 i (zO 12 i) 27)::(12,.row 1 (cN i 1 0) ((zF i 1 0).map fun x=>ii x) 3)::(13,.row 1 (cN i 1 1) ((zF i 1 1).map fun x=>ii x) 3)::(14,.row 1 (cN i 1 2) ((zF i 1 2).map fun x=>ii x) 3)::(15,.row 1 (cN i 1 3) ((zF i 1 3).map fun x=>ii x) 3)::(16,.row 1 (cN i 1 4) ((zF i 1 4).map fun x=>ii x) 3)::(17,.row 1 (cN i 1 5) ((zF i 1 5).map fun x=>ii x) 3)::(18,.row 1 (cN i 1 6) ((zF i 1 6).map fun x=>ii x) 3)::(19,.row 1 (cN i 1 7) ((zF i 1 7).map fun x=>ii x) 3)::(20,.row 1 (cN i 1 8) ((zF i 1 8).map fun x=>ii x) 3)::(21,.row 1 (cN i 1 9) ((zF i 1 9).map fun x=>ii x) 3)::(22,.row 1 (cN i 1 10) ((zF i 1 10).map fun x=>ii x) 3)::(23,.row 1 (cN i 1 11) ((zF i 1 11).map fun x=>ii x) 3)::(24,.row 1 (cN i 1 12) ((zF i 1 12).map fun x=>ii x) 3)::(25,.row 1 (cN i 1 13) ((zF i 1 13).map fun x=>ii x) 3)::(26,.row 1 (cN i 1 14) ((zF i 1 14).map fun x=>ii x) 3)::(27,.row 1 (cN i 1 15) ((zF i 1 15).map fun x=>ii x) 3)::(9,.cells [.opq 0,ii inp,nq,ii 0,.opq 7,.opq 11] 192)::(7,.row 2 1 [ii 0,ii 0] 139)::(2,.cells [.opq 0,ii inp,nq] 25)::(0,.rwin 8 1 ([qW].flatMap Prm.vals))::(1,.pin plp)::[]):=fun i n hi hn=>(by repeat first|exact trivial|refine⟨⟨by omega,qQ (by omega)⟩,?_⟩|refine⟨⟨by omega,Os.h _⟩,?_⟩|refine⟨⟨by omega,qE _ rfl⟩,?_⟩|refine⟨⟨by omega,fun p hp=>Nat.lt_of_lt_of_le (hcov.1 p hp) (by omega)⟩,?_⟩|refine⟨⟨by omega,by simp[SObj.sc,SV.scs,SV.sc];omega⟩,?_⟩)
 refine Run.pR (T:=fun i=>[(1,.ptr 2 0),(2,.v (.pointer none)),(3,.ptr 9 0),(4,ii ((i:Nat):Int))]) (M:=fun i=>((11,.row 1 i (zO 12 i) 27)::(12,.row 1 (cN i 1 0) ((zF i 1 0).map fun x=>ii x) 3)::(13,.row 1 (cN i 1 1) ((zF i 1 1).map fun x=>ii x) 3)::(14,.row 1 (cN i 1 2) ((zF i 1 2).map fun x=>ii x) 3)::(15,.row 1 (cN i 1 3) ((zF i 1 3).map fun x=>ii x) 3)::(16,.row 1 (cN i 1 4) ((zF i 1 4).map fun x=>ii x) 3)::(17,.row 1 (cN i 1 5) ((zF i 1 5).map fun x=>ii x) 3)::(18,.row 1 (cN i 1 6) ((zF i 1 6).map fun x=>ii x) 3)::(19,.row 1 (cN i 1 7) ((zF i 1 7).map fun x=>ii x) 3)::(20,.row 1 (cN i 1 8) ((zF i 1 8).map fun x=>ii x) 3)::(21,.row 1 (cN i 1 9) ((zF i 1 9).map fun x=>ii x) 3)::(22,.row 1 (cN i 1 10) ((zF i 1 10).map fun x=>ii x) 3)::(23,.row 1 (cN i 1 11) ((zF i 1 11).map fun x=>ii x) 3)::(24,.row 1 (cN i 1 12) ((zF i 1 12).map fun x=>ii x) 3)::(25,.row 1 (cN i 1 13) ((zF i 1 13).map fun x=>ii x) 3)::(26,.row 1 (cN i 1 14) ((zF i 1 14).map fun x=>ii x) 3)::(27,.row 1 (cN i 1 15) ((zF i 1 15).map fun x=>ii x) 3)::(9,.cells [.opq 0,ii inp,nq,ii 0,.opq 7,.opq 11] 192)::(7,.row 2 1 [ii 0,ii 0] 139)::(2,.cells [.opq 0,ii inp,nq] 25)::(0,.rwin 8 1 ([qW].flatMap Prm.vals))::(1,.pin plp)::[])) 28 (fun _=>True) 16 rfl rfl rfl (hIn 0 28 (by omega) (by omega)) hL28 trivial ?_ ?_
 ·intro u hu _ ih
  have hInA:In 42 ((37,.cells [.opq 36] 27)::(36,.row 1 1 [ii 0] 3)::(11,.row 1 u (zO 12 u) 27)::(12,.row 1 (cN u 1 0) ((zF u 1 0).map fun x=>ii x) 3)::(13,.row 1 (cN u 1 1) ((zF u 1 1).map fun x=>ii x) 3)::(14,.row 1 (cN u 1 2) ((zF u 1 2).map fun x=>ii x) 3)::(15,.row 1 (cN u 1 3) ((zF u 1 3).map fun x=>ii x) 3)::(16,.row 1 (cN u 1 4) ((zF u 1 4).map fun x=>ii x) 3)::(17,.row 1 (cN u 1 5) ((zF u 1 5).map fun x=>ii x) 3)::(18,.row 1 (cN u 1 6) ((zF u 1 6).map fun x=>ii x) 3)::(19,.row 1 (cN u 1 7) ((zF u 1 7).map fun x=>ii x) 3)::(20,.row 1 (cN u 1 8) ((zF u 1 8).map fun x=>ii x) 3)::(21,.row 1 (cN u 1 9) ((zF u 1 9).map fun x=>ii x) 3)::(22,.row 1 (cN u 1 10) ((zF u 1 10).map fun x=>ii x) 3)::(23,.row 1 (cN u 1 11) ((zF u 1 11).map fun x=>ii x) 3)::(24,.row 1 (cN u 1 12) ((zF u 1 12).map fun x=>ii x) 3)::(25,.row 1 (cN u 1 13) ((zF u 1 13).map fun x=>ii x) 3)::(26,.row 1 (cN u 1 14) ((zF u 1 14).map fun x=>ii x) 3)::(27,.row 1 (cN u 1 15) ((zF u 1 15).map fun x=>ii x) 3)::(9,.cells [.opq 0,ii inp,nq,ii 0,.opq 7,.opq 11] 192)::(7,.row 2 1 [ii 0,ii 0] 139)::(2,.cells [.opq 0,ii inp,nq] 25)::(0,.rwin 8 1 ([qW].flatMap Prm.vals))::(1,.pin plp)::[]):=⟨⟨by omega,zU _ rfl⟩,⟨by omega,zU _ rfl⟩,hIn u 42 (by omega) (by omega)⟩
  have hsu:IntKind.i64.wrap (((u:Nat):Int)+1)=((u+1:Nat):Int):=zC (by omega)
  refine Run.W2 hc ?_
  conv=>whnf
  rw[decide_eq_true (show((u:Nat):Int)<16 by omega)]
  conv=>whnf
  refine Run.pU (hc w L0 none nofun) fun l0 hl0=> ?_
  have hlin:=Lin.ofGo [0,1,2,3,4,5,6,7,8,9,10,11,12,13] hl0 rfl (by decide)
  apply joinA (k:=_) [(16,.ptr 9 0),(1,.ptr 2 0),(2,.v (.pointer none)),(3,.ptr 9 0),(4,ii ((u:Nat):Int)),(20,.opq 11),(25,.slc 37 0 1 1)] ((37,.cells [.opq 36] 27)::(36,.row 1 1 [ii 0] 3)::(11,.row 1 u (zO 12 u) 27)::(12,.row 1 (cN u 1 0) ((zF u 1 0).map fun x=>ii x) 3)::(13,.row 1 (cN u 1 1) ((zF u 1 1).map fun x=>ii x) 3)::(14,.row 1 (cN u 1 2) ((zF u 1 2).map fun x=>ii x) 3)::(15,.row 1 (cN u 1 3) ((zF u 1 3).map fun x=>ii x) 3)::(16,.row 1 (cN u 1 4) ((zF u 1 4).map fun x=>ii x) 3)::(17,.row 1 (cN u 1 5) ((zF u 1 5).map fun x=>ii x) 3)::(18,.row 1 (cN u 1 6) ((zF u 1 6).map fun x=>ii x) 3)::(19,.row 1 (cN u 1 7) ((zF u 1 7).map fun x=>ii x) 3)::(20,.row 1 (cN u 1 8) ((zF u 1 8).map fun x=>ii x) 3)::(21,.row 1 (cN u 1 9) ((zF u 1 9).map fun x=>ii x) 3)::(22,.row 1 (cN u 1 10) ((zF u 1 10).map fun x=>ii x) 3)::(23,.row 1 (cN u 1 11) ((zF u 1 11).map fun x=>ii x) 3)::(24,.row 1 (cN u 1 12) ((zF u 1 12).map fun x=>ii x) 3)::(25,.row 1 (cN u 1 13) ((zF u 1 13).map fun x=>ii x) 3)::(26,.row 1 (cN u 1 14) ((zF u 1 14).map fun x=>ii x) 3)::(27,.row 1 (cN u 1 15) ((zF u 1 15).map fun x=>ii x) 3)::(9,.cells [.opq 0,ii inp,nq,ii 0,.opq 7,.opq 11] 192)::(7,.row 2 1 [ii 0,ii 0] 139)::(2,.cells [.opq 0,ii inp,nq] 25)::(0,.rwin 8 1 ([qW].flatMap Prm.vals))::(1,.pin plp)::[]) 42 [10,11,12,13]
  ·intro g1
   refine Run.pE (hc w L0 none nofun) [1,2,3,4,5,6,7,8,9] [0] [10,11,12,13] hlin ?_
   conv=>whnf
   refine⟨by kernel_rfl,fun l1 hl1=> ?_,.inr ⟨[(1,.ptr 2 0),(2,.v (.pointer none)),(3,.ptr 9 0),(4,ii ((u:Nat):Int)),(20,.opq 11),(25,.slc 37 0 1 1)],((37,.cells [.opq 36] 27)::(36,.row 1 1 [ii 0] 3)::(11,.row 1 u (zO 12 u) 27)::(12,.row 1 (cN u 1 0) ((zF u 1 0).map fun x=>ii x) 3)::(13,.row 1 (cN u 1 1) ((zF u 1 1).map fun x=>ii x) 3)::(14,.row 1 (cN u 1 2) ((zF u 1 2).map fun x=>ii x) 3)::(15,.row 1 (cN u 1 3) ((zF u 1 3).map fun x=>ii x) 3)::(16,.row 1 (cN u 1 4) ((zF u 1 4).map fun x=>ii x) 3)::(17,.row 1 (cN u 1 5) ((zF u 1 5).map fun x=>ii x) 3)::(18,.row 1 (cN u 1 6) ((zF u 1 6).map fun x=>ii x) 3)::(19,.row 1 (cN u 1 7) ((zF u 1 7).map fun x=>ii x) 3)::(20,.row 1 (cN u 1 8) ((zF u 1 8).map fun x=>ii x) 3)::(21,.row 1 (cN u 1 9) ((zF u 1 9).map fun x=>ii x) 3)::(22,.row 1 (cN u 1 10) ((zF u 1 10).map fun x=>ii x) 3)::(23,.row 1 (cN u 1 11) ((zF u 1 11).map fun x=>ii x) 3)::(24,.row 1 (cN u 1 12) ((zF u 1 12).map fun x=>ii x) 3)::(25,.row 1 (cN u 1 13) ((zF u 1 13).map fun x=>ii x) 3)::(26,.row 1 (cN u 1 14) ((zF u 1 14).map fun x=>ii x) 3)::(27,.row 1 (cN u 1 15) ((zF u 1 15).map fun x=>ii x) 3)::(9,.cells [.opq 0,ii inp,nq,ii 0,.opq 7,.opq 11] 192)::(7,.row 2 1 [ii 0,ii 0] 139)::(2,.cells [.opq 0,ii inp,nq] 25)::(0,.rwin 8 1 ([qW].flatMap Prm.vals))::(1,.pin plp)::[]),by kernel_rfl,⟨rfl,rfl,rfl,rfl,rfl,rfl,trivial⟩,(by repeat first|exact trivial|refine⟨rfl,?_⟩),fun l1 hl1=> ?_⟩⟩
   ·exact Run.r8 (g1 l1 hl1) rfl rfl rfl hInA hL42
   ·obtain⟨i,l2,rfl,hi,_,hl2⟩:=hl1.next [10,0] rfl rfl rfl
    have hi2:i=10∨i=0:=by simpa using hi
    rcases hi2 with rfl|rfl
    ·refine Run.append (hc w L0 none nofun) rfl rfl rfl rfl rfl rfl rfl rfl rfl rfl rfl rfl rfl rfl rfl (by decide) ⟨by omega,by omega⟩ [(36,_),(12,_),(13,_),(14,_),(15,_),(16,_),(17,_),(18,_),(19,_),(20,_),(21,_),(22,_),(23,_),(24,_),(25,_),(26,_),(27,_),(9,_),(7,_),(2,_),(0,_),(1,_)] (AllP.mem (by repeat first|exact trivial|refine⟨⟨rfl,(neb rfl)⟩,?_⟩)) ?_
     refine Run.pE (hc w L0 none nofun) [0,11,12,13] [] [] hl2 ?_
     conv=>whnf
     refine⟨by kernel_rfl,fun l3 hl3=> ?_,.inl rfl⟩
     obtain rfl:=hl3.nil
     refine Run.W2 hc ?_
     conv=>whnf
     refine Run.pN (rq [(11,42),(42,11),(12+u,36),(36,12+u)]) (ih trivial) ?_ ?_ rfl ?_ (hIn (u+1) 28 (by omega) (by omega)) (fun p hp=>by have:=hL p hp;cases this)
     ·have inv :∀i,i<28→rq [(11,42),(42,11),(12+u,36),(36,12+u)] (rq [(11,42),(42,11),(12+u,36),(36,12+u)] i)=i:=by rcases xR hu with rfl|rfl|rfl|rfl|rfl|rfl|rfl|rfl|rfl|rfl|rfl|rfl|rfl|rfl|rfl|rfl<;>decide
      exact fun i hi j hj hne he=>hne (by rw[←inv i hi,he,inv j hj])
     ·rw[hsu];rcases xR hu with rfl|rfl|rfl|rfl|rfl|rfl|rfl|rfl|rfl|rfl|rfl|rfl|rfl|rfl|rfl|rfl<;>rfl
     ·rcases xR hu with rfl|rfl|rfl|rfl|rfl|rfl|rfl|rfl|rfl|rfl|rfl|rfl|rfl|rfl|rfl|rfl<;>(repeat first|exact trivial|refine⟨rfl,?_⟩|refine⟨congrArg some (jO hcov (fun i hi=>zA (qS (B:=1) rfl hi))).symm,?_⟩)
    ·refine Run.r6 (hc w L0 none nofun) 1 _ ?_
     conv=>whnf
     exact Run.r8 (g1 l2 hl2) rfl rfl rfl hInA hL42
  ·intro l1 hl1
   obtain⟨i,l2,rfl,hi,_,hl2⟩:=hl1.next [10] rfl rfl rfl
   obtain rfl:i=10:=by simpa using hi
   refine Run.append (hc w L0 none nofun) rfl rfl rfl rfl rfl rfl rfl rfl rfl rfl rfl rfl rfl rfl rfl (by decide) ⟨by omega,by omega⟩ [(36,_),(12,_),(13,_),(14,_),(15,_),(16,_),(17,_),(18,_),(19,_),(20,_),(21,_),(22,_),(23,_),(24,_),(25,_),(26,_),(27,_),(9,_),(7,_),(2,_),(0,_),(1,_)] (AllP.mem (by repeat first|exact trivial|refine⟨⟨rfl,(neb rfl)⟩,?_⟩)) ?_
   refine Run.pE (hc w L0 none nofun) [11,12,13] [] [] hl2 ?_
   conv=>whnf
   refine⟨by kernel_rfl,fun l3 hl3=> ?_,.inl rfl⟩
   obtain rfl:=hl3.nil
   refine Run.W2 hc ?_
   conv=>whnf
   refine Run.pN (rq [(11,42),(42,11),(12+u,36),(36,12+u)]) (ih trivial) ?_ ?_ rfl ?_ (hIn (u+1) 28 (by omega) (by omega)) (fun p hp=>by have:=hL p hp;cases this)
   ·have inv :∀i,i<28→rq [(11,42),(42,11),(12+u,36),(36,12+u)] (rq [(11,42),(42,11),(12+u,36),(36,12+u)] i)=i:=by rcases xR hu with rfl|rfl|rfl|rfl|rfl|rfl|rfl|rfl|rfl|rfl|rfl|rfl|rfl|rfl|rfl|rfl<;>decide
    exact fun i hi j hj hne he=>hne (by rw[←inv i hi,he,inv j hj])
   ·rw[hsu];rcases xR hu with rfl|rfl|rfl|rfl|rfl|rfl|rfl|rfl|rfl|rfl|rfl|rfl|rfl|rfl|rfl|rfl<;>rfl
   ·rcases xR hu with rfl|rfl|rfl|rfl|rfl|rfl|rfl|rfl|rfl|rfl|rfl|rfl|rfl|rfl|rfl|rfl<;>(repeat first|exact trivial|refine⟨rfl,?_⟩|refine⟨congrArg some (jO hcov (fun i hi=>zA (qS (B:=1) rfl hi))).symm,?_⟩)
 ·intro _
  refine Run.pN (n':=49) (T':=[(2,.v (.pointer none)),(3,.ptr 30 0),(4,ii ((16:Nat):Int))]) (M':=((30,.cells [.opq 0,ii inp,nq,ii 0,.opq 31,.opq 32] 192)::(31,.row 2 1 [ii 0,ii 0] 139)::(32,.row 1 16 [.opq 33,.opq 34,.opq 35,.opq 36,.opq 37,.opq 38,.opq 39,.opq 40,.opq 41,.opq 42,.opq 43,.opq 44,.opq 45,.opq 46,.opq 47,.opq 48] 27)::(33,.row 1 1 [ii 0] 3)::(34,.row 1 1 [ii 0] 3)::(35,.row 1 1 [ii 0] 3)::(36,.row 1 1 [ii 0] 3)::(37,.row 1 1 [ii 0] 3)::(38,.row 1 1 [ii 0] 3)::(39,.row 1 1 [ii 0] 3)::(40,.row 1 1 [ii 0] 3)::(41,.row 1 1 [ii 0] 3)::(42,.row 1 1 [ii 0] 3)::(43,.row 1 1 [ii 0] 3)::(44,.row 1 1 [ii 0] 3)::(45,.row 1 1 [ii 0] 3)::(46,.row 1 1 [ii 0] 3)::(47,.row 1 1 [ii 0] 3)::(48,.row 1 1 [ii 0] 3)::(1,.pin plp)::[])) (rq [(30,9),(9,30),(31,7),(7,31),(32,11),(11,32),(33,12),(34,13),(35,14),(36,15),(37,16),(38,17),(39,18),(40,19),(41,20),(42,21),(43,22),(44,23),(45,24),(46,25),(47,26),(48,27),(12,33),(13,34),(14,35),(15,36),(16,37),(17,38),(18,39),(19,40),(20,41),(21,42),(22,43),(23,44),(24,45),(25,46),(26,47),(27,48)]) ?_ ?_ rfl rfl (by repeat first|exact trivial|refine⟨rfl,?_⟩|refine⟨congrArg some (jO hcov (fun i hi=>zA (qS (B:=1) rfl hi))).symm,?_⟩) (by refine⟨⟨by omega,zU _ rfl⟩,⟨by omega,zU _ rfl⟩,⟨by omega,zU _ rfl⟩,?_⟩;repeat first|exact trivial|refine⟨⟨by omega,zU _ rfl⟩,?_⟩|refine⟨⟨by omega,pnx hcov rfl⟩,?_⟩) (fun p hp=>by have:=hL p hp;cases this)
  ·refine Run.W2 hc ?_
   conv=>whnf
   rw[←hRR]
   exact SpecR.intro 30 (by decide) hLB (by decide) hcov rfl rfl (show 1<20 by decide) (by repeat first|exact trivial|refine⟨⟨rfl,by omega,zU _ rfl⟩,?_⟩)
  ·have inv :∀i,i<49→rq [(30,9),(9,30),(31,7),(7,31),(32,11),(11,32),(33,12),(34,13),(35,14),(36,15),(37,16),(38,17),(39,18),(40,19),(41,20),(42,21),(43,22),(44,23),(45,24),(46,25),(47,26),(48,27),(12,33),(13,34),(14,35),(15,36),(16,37),(17,38),(18,39),(19,40),(20,41),(21,42),(22,43),(23,44),(24,45),(25,46),(26,47),(27,48)] (rq [(30,9),(9,30),(31,7),(7,31),(32,11),(11,32),(33,12),(34,13),(35,14),(36,15),(37,16),(38,17),(39,18),(40,19),(41,20),(42,21),(43,22),(44,23),(45,24),(46,25),(47,26),(48,27),(12,33),(13,34),(14,35),(15,36),(16,37),(17,38),(18,39),(19,40),(20,41),(21,42),(22,43),(23,44),(24,45),(25,46),(26,47),(27,48)] i)=i:=by decide
   exact fun i hi j hj hne he=>hne (by rw[←inv i hi,he,inv j hj])
def FTw_v:List SV→Option SV
 | [.v (.int .i64 a)]=>some (ii (W (a.tdiv 256)))
 |_=>none
theorem rG:Pure Try.prog 88 (z8 FTw_v):=PureV.lift {
 ent:=ent _ _ Try.func88 (by kernel_rfl) rfl
 sc S args v hv _:=by
  unfold FTw_v at hv
  split at hv
  ·obtain rfl:=Option.some.inj hv;trivial
  ·cases hv
 run ρ args v w hv:=by
  unfold FTw_v at hv
  split at hv
  ·rename_i a
   obtain rfl:=Option.some.inj hv
   refine Run.pA (tab:=tab) (pf:=[]) (cuts:=[]) mixed qI trivial Try.func88 rfl [ii a] 100 ⟨trivial,trivial⟩ rfl ?_
   conv=>whnf
   refine⟨by decide,?_⟩
   conv=>whnf
   exact⟨fun ρ w' hW _=>⟨rfl,hW.toExt⟩⟩
  ·cases hv }
def rchC (r:Rul)(m:Mrk)(sp ar:Bool):Int:=
 let c:=if sp then W (0+W ((W (r.up*m.x)).tdiv (pwr r.shift)))else 0
 if ar then W (c-W ((W (r.down*m.y)).tdiv (pwr r.shift)))else c
def rchg (r:Rul)(m:Mrk)(sp ar:Bool)(q:Int):Mrk:=
 if r.kind=1 then⟨max r.lo (min r.hi (W (m.w+rchC r m sp ar))),m.x,m.y,m.e⟩
 else⟨max r.lo (min r.hi (W (m.w+W ((W (q*max (-65535) (min 65535 (W (m.e+rchC r m sp ar))))).tdiv 256)))),m.x,m.y,max (-65535) (min 65535 (W (m.e+rchC r m sp ar)))⟩
theorem change3_run (r:Rul)(m:Mrk)(sp ar:Bool)(q:Int)(hs:0≤r.shift∧r.shift≤16)(w:World):Calls Try.prog 89 #[m.sv.conc zI,r.sv.conc zI,.bool sp,.bool ar,.int .i64 q] w fun e w'=>e = .returned ((rchg r m sp ar q).sv.conc zI)∧Ext w w':=by
 obtain⟨pwo,hpo⟩ :∃pwo,pwr=pwo:=⟨_,rfl⟩
 have hpp:pwo r.shift≠0:=by
  have:=pw2_eq r.shift.toNat (by omega)
  have hp0:(0:Int)<2 ^ r.shift.toNat:=by exact_mod_cast Nat.pow_pos (by decide)
  rw[←hpo,pwr,this];omega
 have hpf:PF.oks Try.prog [(88,z8 FTw_v),(50,F62 fun n=>.int .i64 (pwo n))]:=by rw[←hpo];exact⟨rG,power_pure,trivial⟩
 have hc :∀w L' rd,(∀p,rd=some p→p∈L')→Cx.ok ⟨Try.prog,tab,[(88,z8 FTw_v),(50,F62 fun n=>.int .i64 (pwo n))],89,Try.f89,[],w,L',rd⟩:=fun w L' rd h=>⟨qI,hpf,Try.func89,mixed,h⟩
 unfold rchg rchC
 rw[hpo]
 refine Run.pA (tab:=tab) (pf:=[(88,z8 FTw_v),(50,F62 fun n=>.int .i64 (pwo n))]) (cuts:=[]) mixed qI hpf Try.func89 rfl [m.sv,.agg (r.vals.map .v),.v (.bool sp),.v (.bool ar),ii q] 100 (by simp[SV.scs,SV.sc,Mrk.sv,Mrk.cells,qR]) rfl ?_
 conv=>whnf
 cases sp
 ·conv=>whnf
  cases ar
  ·conv=>whnf
   cases hk:r.kind==1
   case true=>
    rw[if_pos (by simpa using hk)]
    conv=>whnf
    exact⟨fun ρ w' hW _=>⟨rfl,hW.toExt⟩⟩
   rw[if_neg (by simpa using hk)]
   conv=>whnf
   refine Run.draw (hc w [] none nofun) 10 ?_
   rw[show qC 0 10=qC 0 6++(qC 6 1++(qC 7 1++qC 8 2))from rfl]
   simp only[qP]
   conv=>whnf
   refine⟨by kernel_rfl,?_⟩
   refine Run.W1 (hc w [] none nofun) ?_
   conv=>whnf
   exact⟨fun ρ w' hW _=>⟨rfl,hW.toExt⟩⟩
  ·conv=>whnf
   refine Run.draw (hc w [] none nofun) 11 ?_
   rw[show qC 0 11=qC 0 8++(qC 8 1++(qC 9 1++qC 10 1))from rfl]
   simp only[qP]
   conv=>whnf
   rw[tY (h:=fun n=>.int .i64 (pwo n)) rfl rfl rfl rfl (show r.shift≤62 by omega)]
   conv=>whnf
   refine⟨hpp,?_⟩
   conv=>whnf
   refine⟨by kernel_rfl,?_⟩
   refine Run.W1 (hc w [] none nofun) ?_
   conv=>whnf
   cases hk:r.kind==1
   case true=>
    rw[if_pos (by simpa using hk)]
    conv=>whnf
    exact⟨fun ρ w' hW _=>⟨rfl,hW.toExt⟩⟩
   rw[if_neg (by simpa using hk)]
   conv=>whnf
   refine Run.draw (hc w [] none nofun) 10 ?_
   rw[show qC 0 10=qC 0 6++(qC 6 1++(qC 7 1++qC 8 2))from rfl]
   simp only[qP]
   conv=>whnf
   refine⟨by kernel_rfl,?_⟩
   refine Run.W1 (hc w [] none nofun) ?_
   conv=>whnf
   exact⟨fun ρ w' hW _=>⟨rfl,hW.toExt⟩⟩
 ·conv=>whnf
  refine Run.draw (hc w [] none nofun) 11 ?_
  rw[show qC 0 11=qC 0 8++(qC 8 1++(qC 9 1++qC 10 1))from rfl]
  simp only[qP]
  conv=>whnf
  rw[tY (h:=fun n=>.int .i64 (pwo n)) rfl rfl rfl rfl (show r.shift≤62 by omega)]
  conv=>whnf
  refine⟨hpp,?_⟩
  conv=>whnf
  refine⟨by kernel_rfl,?_⟩
  refine Run.W1 (hc w [] none nofun) ?_
  conv=>whnf
  cases ar
  ·conv=>whnf
   cases hk:r.kind==1
   case true=>
    rw[if_pos (by simpa using hk)]
    conv=>whnf
    exact⟨fun ρ w' hW _=>⟨rfl,hW.toExt⟩⟩
   rw[if_neg (by simpa using hk)]
   conv=>whnf
   refine Run.draw (hc w [] none nofun) 10 ?_
   rw[show qC 0 10=qC 0 6++(qC 6 1++(qC 7 1++qC 8 2))from rfl]
   simp only[qP]
   conv=>whnf
   refine⟨by kernel_rfl,?_⟩
   refine Run.W1 (hc w [] none nofun) ?_
   conv=>whnf
   exact⟨fun ρ w' hW _=>⟨rfl,hW.toExt⟩⟩
  ·conv=>whnf
   refine Run.draw (hc w [] none nofun) 11 ?_
   rw[show qC 0 11=qC 0 8++(qC 8 1++(qC 9 1++qC 10 1))from rfl]
   simp only[qP]
   conv=>whnf
   rw[tY (h:=fun n=>.int .i64 (pwo n)) rfl rfl rfl rfl (show r.shift≤62 by omega)]
   conv=>whnf
   refine⟨hpp,?_⟩
   conv=>whnf
   refine⟨by kernel_rfl,?_⟩
   refine Run.W1 (hc w [] none nofun) ?_
   conv=>whnf
   cases hk:r.kind==1
   case true=>
    rw[if_pos (by simpa using hk)]
    conv=>whnf
    exact⟨fun ρ w' hW _=>⟨rfl,hW.toExt⟩⟩
   rw[if_neg (by simpa using hk)]
   conv=>whnf
   refine Run.draw (hc w [] none nofun) 10 ?_
   rw[show qC 0 10=qC 0 6++(qC 6 1++(qC 7 1++qC 8 2))from rfl]
   simp only[qP]
   conv=>whnf
   refine⟨by kernel_rfl,?_⟩
   refine Run.W1 (hc w [] none nofun) ?_
   conv=>whnf
   exact⟨fun ρ w' hW _=>⟨rfl,hW.toExt⟩⟩
set_option maxHeartbeats 16000000
def yL (S:List Syn)(pl:List Int)(r p lo hi tot:Int)(x:Int×List Mrk)(i:Nat):Int×List Mrk:=
 if pl.getD i (-1)=r∧(S.getD i qY).to=p then
  if x.1<tot then(if (x.2.getD i qM).w<hi then(W (x.1+1),x.2.set i { x.2.getD i qM with w:=W ((x.2.getD i qM).w+1) })else x)
  else(if lo<(x.2.getD i qM).w then(W (x.1-1),x.2.set i { x.2.getD i qM with w:=W ((x.2.getD i qM).w-1) })else x)
 else x
def rrY (S:List Syn)(pl:List Int)(r p lo hi tot:Int)(x:Int×List Mrk):Nat→Int×List Mrk
 | 0=>x
 |k+1=>yL S pl r p lo hi tot (rrY S pl r p lo hi tot x k) (k % S.length)
theorem rrIt_len (S:List Syn)(pl:List Int)(r p lo hi tot:Int)(x:Int×List Mrk)(i:Nat):(yL S pl r p lo hi tot x i).2.length=x.2.length:=by
 unfold yL
 split
 ·split
  ·split<;>simp
  ·split<;>simp
 ·rfl
theorem rrY_len (S:List Syn)(pl:List Int)(r p lo hi tot:Int)(x:Int×List Mrk) :∀k,(rrY S pl r p lo hi tot x k).2.length=x.2.length
 | 0=>rfl
 |k+1=>by rw[rrY,rrIt_len];exact rrY_len S pl r p lo hi tot x k
theorem rr_next' {k L:Nat}(h0:0<L)(h:L≤100000):(IntKind.i64.wrap (((k % L:Nat):Int)+1)).tmod (L:Int)=(((k+1) % L:Nat):Int):=by
 have h1:=Nat.mod_lt k h0
 have h2:IntKind.i64.wrap (((k % L:Nat):Int)+1)=((k % L+1:Nat):Int):=zC (by omega)
 rw[h2]
 have h3:((k % L+1:Nat):Int).tmod (L:Int)=((((k % L+1) % L):Nat):Int):=by
  rw[Int.tmod_eq_emod_of_nonneg (by omega)];exact(Int.natCast_emod _ _).symm
 rw[h3,show(k % L+1) % L=(k+1) % L by simp[Nat.add_mod]]
theorem rrestore_spec (tk inp:Int)(N:Nat)(S:List Syn)(rs:List Rul)(pl:List Int)(m:List Mrk)(tt:Nat→List Int)(r p:Nat)(sum:Int)(K:Nat)(hS:S.length≤8192)(hR:rs.length≤16)(hp:pl.length=S.length)(hm:m.length=S.length)(hr:r<rs.length)(hpN:p<N)(htt :∀k,(tt k).length=cN rs.length N k)
  (hK :∀k,k<K→(rrY S pl r p (rs.getD r q8).lo (rs.getD r q8).hi ((tt r).getD p 0) (sum,m) k).1≠(tt r).getD p 0) (hE:(rrY S pl r p (rs.getD r q8).lo (rs.getD r q8).hi ((tt r).getD p 0) (sum,m) K).1=(tt r).getD p 0) (hL:0<K→0<S.length) :
  BSpec Try.prog 90 [.ptr 0 0,ii (r:Int),ii (p:Int),ii sum] [(0,.cells (z9 (ii tk) inp) 108),(2,.rwin 4 S.length (S.flatMap Syn.vals)),(4,.rwin 10 rs.length (rs.flatMap Rul.vals)),(5,.rwin 1 pl.length (qB pl)),(6,.row 4 S.length (m.flatMap Mrk.cells) 141),(7,.row 1 rs.length (zO 25 rs.length) 27),(25,.rwin 1 (cN rs.length N 0) (qB (tt 0))),(26,.rwin 1 (cN rs.length N 1) (qB (tt 1))),(27,.rwin 1 (cN rs.length N 2) (qB (tt 2))),(28,.rwin 1 (cN rs.length N 3) (qB (tt 3))),(29,.rwin 1 (cN rs.length N 4) (qB (tt 4))),(30,.rwin 1 (cN rs.length N 5) (qB (tt 5))),(31,.rwin 1 (cN rs.length N 6) (qB (tt 6))),(32,.rwin 1 (cN rs.length N 7) (qB (tt 7))),(33,.rwin 1 (cN rs.length N 8) (qB (tt 8))),(34,.rwin 1 (cN rs.length N 9) (qB (tt 9))),(35,.rwin 1 (cN rs.length N 10) (qB (tt 10))),(36,.rwin 1 (cN rs.length N 11) (qB (tt 11))),(37,.rwin 1 (cN rs.length N 12) (qB (tt 12))),(38,.rwin 1 (cN rs.length N 13) (qB (tt 13))),(39,.rwin 1 (cN rs.length N 14) (qB (tt 14))),(40,.rwin 1 (cN rs.length N 15) (qB (tt 15)))] 41 [0,6,7] (.tup []) [(0,.cells (z9 (ii tk) inp) 108),(6,.row 4 S.length ((rrY S pl r p (rs.getD r q8).lo (rs.getD r q8).hi ((tt r).getD p 0) (sum,m) K).2.flatMap Mrk.cells) 141),(7,.row 1 rs.length (zO 25 rs.length) 27)] 41:=by
 have hc :∀w L' rd,(∀p,rd=some p→p∈L')→Cx.ok ⟨Try.prog,tab,[],90,Try.f90,[],w,L',rd⟩:=fun w L' rd h=>⟨qI,trivial,Try.func90,mixed,h⟩
 have hrl:rs.getD r q8=rs[r]:=by simp[List.getD_eq_getElem?_getD,hr]
 obtain⟨ru,hru⟩ :∃ru,rs[r]=ru:=⟨_,rfl⟩
 rw[hrl,hru]at hK hE ⊢
 have htp:(qB (tt r))[p]? = some (.int .i64 ((tt r).getD p 0)):=by
  have:p<(tt r).length:=by rw[htt];unfold cN;rw[if_pos hr];exact hpN
  rw[zZ this,List.getD_eq_getElem?_getD,List.getElem?_eq_getElem this];rfl
 have hcn:cN rs.length N r=N:=by unfold cN;rw[if_pos hr]
 have htk:(zO 25 rs.length)[r]? = some (.opq (25+r)):=tabX_get hr
 have hr16:r<16:=by omega
 obtain⟨tot,htot⟩ :∃tot,(tt r).getD p 0=tot:=⟨_,rfl⟩
 rw[htot]at hK hE htp ⊢
 refine BSpec.start (tab:=tab) (pf:=[]) (cuts:=[]) Try.func90 rfl ⟨(show 0<41 by decide),trivial,trivial,trivial,trivial⟩ rfl fun w L0 plp hL' hLB hcov=>Run.r6 (hc w L0 none nofun) 100 _ ?_
 conv=>whnf
 refine⟨by omega,?_⟩
 conv=>whnf
 rw[zB r rfl rfl rfl rfl (by rw[qD,Nat.mul_one]) htk]
 conv=>whnf
 apply vT (R:=SpecR w L0 plp (.tup []) [(0,.cells (z9 (ii tk) inp) 108),(6,.row 4 S.length ((rrY S pl r p ru.lo ru.hi tot (sum,m) K).2.flatMap Mrk.cells) 141),(7,.row 1 rs.length (zO 25 rs.length) 27)] 41) [(0,.ptr 0 0),(1,ii (r:Int)),(2,ii (p:Int)),(3,ii sum),(8,ii tot),(9,ii ((0 % S.length:Nat):Int))] [(6,.row 4 S.length (m.flatMap Mrk.cells) 141),(0,.cells (z9 (ii tk) inp) 108),(2,.rwin 4 S.length (S.flatMap Syn.vals)),(4,.rwin 10 rs.length (rs.flatMap Rul.vals)),(5,.rwin 1 pl.length (qB pl)),(7,.row 1 rs.length (zO 25 rs.length) 27),(41,.pin plp)] 42
 ·intro tail
  rcases xR hr16 with rfl|rfl|rfl|rfl|rfl|rfl|rfl|rfl|rfl|rfl|rfl|rfl|rfl|rfl|rfl|rfl
  all_goals
   conv=>whnf
   refine⟨by omega,?_⟩
   conv=>whnf
   rw[zR p rfl rfl rfl rfl (by rw[qD,Nat.mul_one]) htp]
   conv=>whnf
   exact Run.tH tail ⟨⟨rfl,ltb rfl⟩,⟨rfl,trivial⟩,⟨rfl,trivial⟩,⟨rfl,trivial⟩,⟨rfl,trivial⟩,⟨congrArg some (congrArg ii (by rw[Nat.zero_mod];rfl)),trivial⟩,trivial⟩ ⟨⟨rfl,by omega,Os.h _⟩,⟨rfl,by omega,qE _ rfl⟩,⟨rfl,by omega,Os.h _⟩,⟨rfl,by omega,Os.h _⟩,⟨rfl,by omega,Os.h _⟩,⟨rfl,by omega,qQ (by omega)⟩,⟨rfl,by omega,pnx hcov rfl⟩,trivial⟩ (lbx hLB rfl)
 refine Run.pD (T:=fun k=>[(0,.ptr 0 0),(1,ii (r:Int)),(2,ii (p:Int)),(3,ii (rrY S pl r p ru.lo ru.hi tot (sum,m) k).1),(8,ii tot),(9,ii ((k % S.length:Nat):Int))]) (M:=fun k=>[(6,.row 4 S.length ((rrY S pl r p ru.lo ru.hi tot (sum,m) k).2.flatMap Mrk.cells) 141),(0,.cells (z9 (ii tk) inp) 108),(2,.rwin 4 S.length (S.flatMap Syn.vals)),(4,.rwin 10 rs.length (rs.flatMap Rul.vals)),(5,.rwin 1 pl.length (qB pl)),(7,.row 1 rs.length (zO 25 rs.length) 27),(41,.pin plp)]) (fun _=>True) K trivial ?_ ?_
 ·intro k hk _ ih
  have hneK:=hK k hk
  have hL0:=hL (by omega)
  have hil0:=Nat.mod_lt k hL0
  have hll:(rrY S pl r p ru.lo ru.hi tot (sum,m) k).2.length=m.length:=rrY_len S pl r p ru.lo ru.hi tot (sum,m) k
  have hnx:=rr_next' (k:=k) hL0 (by omega)
  have hst:rrY S pl r p ru.lo ru.hi tot (sum,m) (k+1)=yL S pl r p ru.lo ru.hi tot (rrY S pl r p ru.lo ru.hi tot (sum,m) k) (k % S.length):=rfl
  rw[hst]at ih
  obtain⟨x,hx⟩ :∃x,rrY S pl r p ru.lo ru.hi tot (sum,m) k=x:=⟨_,rfl⟩
  rw[hx]at hneK hll ih ⊢
  obtain⟨s,hs⟩ :∃s,x.1=s:=⟨_,rfl⟩
  obtain⟨l,hl⟩ :∃l,x.2=l:=⟨_,rfl⟩
  have hxe:x=(s,l):=by rw[←hs,←hl]
  rw[hs,hl]
  rw[hs]at hneK
  rw[hl]at hll
  rw[hxe]at ih
  obtain⟨i,hi⟩ :∃i,k % S.length=i:=⟨_,rfl⟩
  rw[hi]at hil0 hnx ih ⊢
  have hil:i<l.length:=by omega
  have hip:i<pl.length:=by omega
  have hpd:pl.getD i (-1)=pl[i]:=by simp[List.getD_eq_getElem?_getD,hip]
  have hsd:S.getD i qY=S[i]:=by simp[List.getD_eq_getElem?_getD,hil0]
  have hld:l.getD i qM=l[i]:=by simp[List.getD_eq_getElem?_getD,hil]
  refine Run.W2 hc ?_
  conv=>whnf
  rw[show(s != tot)=true by simpa using hneK]
  conv=>whnf
  refine⟨by omega,?_⟩
  conv=>whnf
  rw[zR i rfl rfl rfl rfl (by rw[qD,Nat.mul_one]) (zZ hip)]
  conv=>whnf
  cases c0:(pl[i] != (r:Int))
  case true=>
   conv=>whnf
   refine⟨by omega,?_⟩
   conv=>whnf
   have hres:yL S pl r p ru.lo ru.hi tot (s,l) i=(s,l):=by
    unfold yL
    rw[hpd,hsd,if_neg (fun h=>by simp[h.1]at c0)]
   rw[hres]at ih
   exact Run.tH (ih trivial) ⟨⟨rfl,ltb rfl⟩,⟨rfl,trivial⟩,⟨rfl,trivial⟩,⟨rfl,trivial⟩,⟨rfl,trivial⟩,⟨congrArg some (congrArg ii hnx),trivial⟩,trivial⟩ ⟨⟨rfl,by omega,Os.h _⟩,⟨rfl,by omega,qE _ rfl⟩,⟨rfl,by omega,Os.h _⟩,⟨rfl,by omega,Os.h _⟩,⟨rfl,by omega,Os.h _⟩,⟨rfl,by omega,qQ (by omega)⟩,⟨rfl,by omega,pnx hcov rfl⟩,trivial⟩ (lbx hLB rfl)
  conv=>whnf
  refine⟨by omega,?_⟩
  conv=>whnf
  rw[qG (f:=Syn.vals) (l:=S) i 1 rfl rfl rfl rfl Syn.vlen (by rw[qD]) hil0 (by decide) rfl]
  conv=>whnf
  cases c1:(S[i].to != (p:Int))
  case true=>
   conv=>whnf
   refine⟨by omega,?_⟩
   conv=>whnf
   have hres:yL S pl r p ru.lo ru.hi tot (s,l) i=(s,l):=by
    unfold yL
    rw[hpd,hsd,if_neg (fun h=>by simp[h.2]at c1)]
   rw[hres]at ih
   exact Run.tH (ih trivial) ⟨⟨rfl,ltb rfl⟩,⟨rfl,trivial⟩,⟨rfl,trivial⟩,⟨rfl,trivial⟩,⟨rfl,trivial⟩,⟨congrArg some (congrArg ii hnx),trivial⟩,trivial⟩ ⟨⟨rfl,by omega,Os.h _⟩,⟨rfl,by omega,qE _ rfl⟩,⟨rfl,by omega,Os.h _⟩,⟨rfl,by omega,Os.h _⟩,⟨rfl,by omega,Os.h _⟩,⟨rfl,by omega,qQ (by omega)⟩,⟨rfl,by omega,pnx hcov rfl⟩,trivial⟩ (lbx hLB rfl)
  conv=>whnf
  have hpr:pl[i]=(r:Int)∧S[i].to=(p:Int):=⟨by simpa using c0,by simpa using c1⟩
  cases c2:decide (s<tot)
  case true=>
   have c4:decide (tot<s)=false:=decide_eq_false (by have:=of_decide_eq_true c2;omega)
   refine Run.draw (hc w L0 none nofun) 22 ?_
   rw[show qC 0 22=qC 0 3++(qC 3 7++(qC 10 2++(qC 12 6++(qC 18 2++qC 20 2))))from rfl]
   simp only[qP]
   conv=>whnf
   rw[c2]
   conv=>whnf
   refine⟨by omega,?_⟩
   conv=>whnf
   rw[j7 (f:=Mrk.cells) (l:=l) i 0 rfl rfl rfl rfl Mrk.clen (by rw[qD]) hil (by decide) rfl]
   conv=>whnf
   refine⟨by omega,?_⟩
   conv=>whnf
   rw[qG (f:=Rul.vals) (l:=rs) r 8 rfl rfl rfl rfl Rul.vlen (by rw[qD]) hr (by decide) rfl,hru]
   conv=>whnf
   refine⟨by kernel_rfl,?_⟩
   refine Run.W2 hc ?_
   conv=>whnf
   cases c3:decide (l[i].w<ru.hi)
   case true=>
    conv=>whnf
    refine⟨by omega,?_⟩
    conv=>whnf
    rw[j7 (f:=Mrk.cells) (l:=l) i 0 rfl rfl rfl rfl Mrk.clen (by rw[qD]) hil (by decide) rfl]
    conv=>whnf
    refine⟨by omega,?_⟩
    conv=>whnf
    rw[yY (f:=Mrk.cells) (l:=l) i 0 ({ l[i]with w:=W (l[i].w+1) }) rfl rfl rfl rfl rfl Mrk.clen (by rw[qD]) hil (by decide) rfl rfl rfl]
    conv=>whnf
    refine⟨by omega,?_⟩
    conv=>whnf
    have hres:yL S pl r p ru.lo ru.hi tot (s,l) i=(W (s+1),l.set i { l[i]with w:=W (l[i].w+1) }):=by
     unfold yL
     simp only[hpd,hsd,hld]
     rw[if_pos hpr,if_pos (of_decide_eq_true c2),if_pos (of_decide_eq_true c3)]
    rw[hres]at ih
    exact Run.tH (ih trivial) ⟨⟨rfl,ltb rfl⟩,⟨rfl,trivial⟩,⟨rfl,trivial⟩,⟨rfl,trivial⟩,⟨rfl,trivial⟩,⟨congrArg some (congrArg ii hnx),trivial⟩,trivial⟩ ⟨⟨rfl,by omega,Os.h _⟩,⟨rfl,by omega,qE _ rfl⟩,⟨rfl,by omega,Os.h _⟩,⟨rfl,by omega,Os.h _⟩,⟨rfl,by omega,Os.h _⟩,⟨rfl,by omega,qQ (by omega)⟩,⟨rfl,by omega,pnx hcov rfl⟩,trivial⟩ (lbx hLB rfl)
   conv=>whnf
   refine Run.draw (hc w L0 none nofun) 22 ?_
   rw[show qC 0 22=qC 0 3++qC 3 19 from rfl]
   simp only[qP]
   conv=>whnf
   rw[c4]
   conv=>whnf
   refine⟨by kernel_rfl,?_⟩
   refine Run.W2 hc ?_
   conv=>whnf
   refine⟨by omega,?_⟩
   conv=>whnf
   have hres:yL S pl r p ru.lo ru.hi tot (s,l) i=(s,l):=by
    unfold yL
    simp only[hpd,hsd,hld]
    rw[if_pos hpr,if_pos (of_decide_eq_true c2),if_neg (of_decide_eq_false c3)]
   rw[hres]at ih
   exact Run.tH (ih trivial) ⟨⟨rfl,ltb rfl⟩,⟨rfl,trivial⟩,⟨rfl,trivial⟩,⟨rfl,trivial⟩,⟨rfl,trivial⟩,⟨congrArg some (congrArg ii hnx),trivial⟩,trivial⟩ ⟨⟨rfl,by omega,Os.h _⟩,⟨rfl,by omega,qE _ rfl⟩,⟨rfl,by omega,Os.h _⟩,⟨rfl,by omega,Os.h _⟩,⟨rfl,by omega,Os.h _⟩,⟨rfl,by omega,qQ (by omega)⟩,⟨rfl,by omega,pnx hcov rfl⟩,trivial⟩ (lbx hLB rfl)
  have c4:decide (tot<s)=true:=decide_eq_true (by have:=of_decide_eq_false c2;omega)
  refine Run.draw (hc w L0 none nofun) 22 ?_
  rw[show qC 0 22=qC 0 3++qC 3 19 from rfl]
  simp only[qP]
  conv=>whnf
  rw[c2]
  conv=>whnf
  refine⟨by kernel_rfl,?_⟩
  refine Run.W2 hc ?_
  conv=>whnf
  refine Run.draw (hc w L0 none nofun) 22 ?_
  rw[show qC 0 22=qC 0 3++(qC 3 7++(qC 10 2++(qC 12 6++(qC 18 2++qC 20 2))))from rfl]
  simp only[qP]
  conv=>whnf
  rw[c4]
  conv=>whnf
  refine⟨by omega,?_⟩
  conv=>whnf
  rw[j7 (f:=Mrk.cells) (l:=l) i 0 rfl rfl rfl rfl Mrk.clen (by rw[qD]) hil (by decide) rfl]
  conv=>whnf
  refine⟨by omega,?_⟩
  conv=>whnf
  rw[qG (f:=Rul.vals) (l:=rs) r 7 rfl rfl rfl rfl Rul.vlen (by rw[qD]) hr (by decide) rfl,hru]
  conv=>whnf
  refine⟨by kernel_rfl,?_⟩
  refine Run.W2 hc ?_
  conv=>whnf
  cases c5:decide (ru.lo<l[i].w)
  case true=>
   conv=>whnf
   refine⟨by omega,?_⟩
   conv=>whnf
   rw[j7 (f:=Mrk.cells) (l:=l) i 0 rfl rfl rfl rfl Mrk.clen (by rw[qD]) hil (by decide) rfl]
   conv=>whnf
   refine⟨by omega,?_⟩
   conv=>whnf
   rw[yY (f:=Mrk.cells) (l:=l) i 0 ({ l[i]with w:=W (l[i].w-1) }) rfl rfl rfl rfl rfl Mrk.clen (by rw[qD]) hil (by decide) rfl rfl rfl]
   conv=>whnf
   refine⟨by omega,?_⟩
   conv=>whnf
   have hres:yL S pl r p ru.lo ru.hi tot (s,l) i=(W (s-1),l.set i { l[i]with w:=W (l[i].w-1) }):=by
    unfold yL
    simp only[hpd,hsd,hld]
    rw[if_pos hpr,if_neg (of_decide_eq_false c2),if_pos (of_decide_eq_true c5)]
   rw[hres]at ih
   exact Run.tH (ih trivial) ⟨⟨rfl,ltb rfl⟩,⟨rfl,trivial⟩,⟨rfl,trivial⟩,⟨rfl,trivial⟩,⟨rfl,trivial⟩,⟨congrArg some (congrArg ii hnx),trivial⟩,trivial⟩ ⟨⟨rfl,by omega,Os.h _⟩,⟨rfl,by omega,qE _ rfl⟩,⟨rfl,by omega,Os.h _⟩,⟨rfl,by omega,Os.h _⟩,⟨rfl,by omega,Os.h _⟩,⟨rfl,by omega,qQ (by omega)⟩,⟨rfl,by omega,pnx hcov rfl⟩,trivial⟩ (lbx hLB rfl)
  conv=>whnf
  refine⟨by omega,?_⟩
  conv=>whnf
  have hres:yL S pl r p ru.lo ru.hi tot (s,l) i=(s,l):=by
   unfold yL
   simp only[hpd,hsd,hld]
   rw[if_pos hpr,if_neg (of_decide_eq_false c2),if_neg (of_decide_eq_false c5)]
  rw[hres]at ih
  exact Run.tH (ih trivial) ⟨⟨rfl,ltb rfl⟩,⟨rfl,trivial⟩,⟨rfl,trivial⟩,⟨rfl,trivial⟩,⟨rfl,trivial⟩,⟨congrArg some (congrArg ii hnx),trivial⟩,trivial⟩ ⟨⟨rfl,by omega,Os.h _⟩,⟨rfl,by omega,qE _ rfl⟩,⟨rfl,by omega,Os.h _⟩,⟨rfl,by omega,Os.h _⟩,⟨rfl,by omega,Os.h _⟩,⟨rfl,by omega,qQ (by omega)⟩,⟨rfl,by omega,pnx hcov rfl⟩,trivial⟩ (lbx hLB rfl)
 ·intro _
  refine Run.W2 hc ?_
  conv=>whnf
  rw[show((rrY S pl r p ru.lo ru.hi tot (sum,m) K).1 != tot)=false by simpa using hE]
  conv=>whnf
  exact SpecR.intro 41 (by decide) hLB (by decide) hcov rfl rfl trivial ⟨⟨rfl,by omega,qE _ rfl⟩,⟨congrArg some (ofx (o:=.row _ _ (List.flatMap Mrk.cells _) _) (qL _ _)).symm,by omega,Os.h _⟩,⟨congrArg some (yV (b:=25) (b':=25) fun j hj=>vQ _ (show 25+j<41 by omega)).symm,by omega,qQ (by omega)⟩,trivial⟩
set_option maxHeartbeats 2000000
def FCh_v:List SV→Option SV
 | [.agg xs,.agg ys,.v (.bool sp),.v (.bool ar),.v (.int .i64 q)]=>match mrkOf xs with
  |some m=>match rulOf ys with
   |some r=>match decide (0≤r.shift∧r.shift≤16)with
    |true=>some (rchg r m sp ar q).sv
    |false=>none
   |none=>none
  |none=>none
 |_=>none
theorem change3_pure:Pure Try.prog 89 (z8 FCh_v):=PureV.lift {
 ent:=ent _ _ Try.func89 (by kernel_rfl) rfl
 sc S args v hv _:=by
  unfold FCh_v at hv
  split at hv
  ·split at hv
   ·split at hv
    ·split at hv
     ·obtain rfl:=Option.some.inj hv
      exact⟨trivial,trivial,trivial,trivial,trivial⟩
     ·cases hv
    ·cases hv
   ·cases hv
  ·cases hv
 run ρ args v w hv:=by
  unfold FCh_v at hv
  split at hv
  ·rename_i xs ys sp ar q
   split at hv
   ·rename_i m hm
    split at hv
    ·rename_i r hr
     split at hv
     ·rename_i hd
      obtain rfl:=Option.some.inj hv
      have:=change3_run r m sp ar q (of_decide_eq_true hd) w
      rw[mrkOf_eq hm,rulOf_eq hr]
      exact this
     ·cases hv
    ·cases hv
   ·cases hv
  ·cases hv }
theorem FCh_at {r:Rul}{m:Mrk}(sp ar:Bool)(q:Int)(M:Mem)(h:0≤r.shift∧r.shift≤16):z8 FCh_v M [.agg m.cells,.agg (r.vals.map .v),.v (.bool sp),.v (.bool ar),ii q]=some ([],(rchg r m sp ar q).sv):=by
 have h1:mrkOf m.cells=some m:=rfl
 have h2:rulOf (r.vals.map .v)=some r:=rfl
 have:FCh_v [.agg m.cells,.agg (r.vals.map .v),.v (.bool sp),.v (.bool ar),ii q]=some (rchg r m sp ar q).sv:=by
  simp only[FCh_v,h1,h2,decide_eq_true h]
 simp only[z8,this]
theorem FGo_at (p:Prm)(s:Ste)(x:Int)(M:Mem):FPSI goSV M [.agg (p.vals.map .v),.agg s.cells,ii x]=some ([],.tup [.agg [ii (j8 p s x).v,ii (j8 p s x).rest],.v (.bool (yM p s x))]):=rfl
theorem FTw_at (a:Int)(M:Mem):z8 FTw_v M [ii a]=some ([],ii (W (a.tdiv 256))):=rfl
end Go.Proofs.Ytnnlpdgnlccbjaa
namespace Go.Sx
set_option maxRecDepth 100000
set_option maxHeartbeats 4000000
open Go
theorem Run.copyTail {c:Cx}(hc:c.ok){T:List (Nat×SV)}{M:List (Nat×SObj)}{n:Nat}{D:List Deferred}{ops:Array Oper}{i i2:Nat}{r:List Nat}{k:List Item}{R:Ending→World→Prop}{o o2:Oper}{t:TypeId}{x y x2:Operand}{d1:Tmp}
  (ho:get ops.toList i=some o) (hop:o.op = .slice t x (some y) none none) (hw:jE ops.toList (look T) o=some true) (hd:okD c.fn.ntmps o.dst=true) (hd1:o.dst=some d1) (hn1:look T d1=none)
  (ho2:get ops.toList i2=some o2) (hop2:o2.op = .call { callee:=.builtin .append,args:= #[x2,.tmp d1],argTypes:= #[t,t] }) (hg2:o2.guard=none) (hd2:okD c.fn.ntmps o2.dst=true)
  {j m:Nat} {xs:List SV} {te:TypeId} (hx:ev (look T) x=some (.opq j)) (hj:look M j=some (.row 1 m xs te)) {kd:IntKind} (hy:ev (look T) y=some (.v (.int kd 1))) (hm:2≤m) (hm2:m≤1000) (hone :∀ ρ,∀u∈SV.concs ρ xs,u.oneCell'=true)
  {q:Nat} (hx2:ev (look T) x2=some (.slc q 0 0 0)) (hq:look M q=some (.cells [] te))
  {ti tie:TI} {bytes:Nat} (hti:look c.tab t=some ti) (hsh:ti.sh = .slc te 1 bytes) (hte:look c.tab te=some tie) (hz:tie.zero.length=1) (hby:bytes≤1000) (M':List (Nat×SObj)) (hM':AllP (fun p=>look M p.1=some p.2∧p.1≠q) M')
  (h:Run c ⟨jW T o2.dst (.opq (n+1)),(n+1,.row 1 (m-1) (xs.drop 1) te)::M',n+2,D,.inRegion ops r::k⟩ R):Run c ⟨T,M,n,D,.inRegion ops (i::i2::r)::k⟩ R:=by
 refine⟨fun ρ a w hi=> ?_⟩
 rw[zL,Array.getElem?_toList]at ho ho2
 refine TW.op ho (z7 hi.tm hw) ?_
 obtain⟨h1,_⟩:=qT hi.tm hx
 obtain⟨h2,_⟩:=qT hi.tm hy
 have hti:=Tab.ok_look hc.tab hti
 have hte:=Tab.ok_look hc.tab hte
 obtain⟨d,hdd1,hdd2⟩:=hti.desc
 obtain⟨inf,rfl,g2,g3,g4⟩:=sh_desc.2.2.2.2.1 te 1 bytes (hdd2.trans hsh)
 obtain⟨inf',z,i1,_,i3,i4⟩:=hte.infos
 rw[g2]at i1
 obtain rfl:=Option.some.inj i1
 have hzs:z.cells.size=1:=by rw[←hz,←i4];simp
 have hund:c.P.underlying t=some (.slice (c.P.elem t)):=by
  rw[hdd1]
  simp[Program.elem,hdd1]
 have hel:c.P.elem t=te:=by
  have:=hund.symm.trans hdd1
  simpa using this
 have hsz:(sizeOf (c.P.elem t)).run c.P w = .ok 1 w:=by rw[hel,k8 g2,g3]
 obtain⟨hjn,hscr,hoff,hlen,hrow⟩:=hi.wi.mem j _ hj
 rcases hrow with⟨hh,h0⟩|⟨cap,sp,hh,hcap,hheap⟩
 ·omega
 have hmc:m≤cap:=by omega
 simp only[SV.conc]at h1 h2
 rw[hh]at h1
 have hrun1:(execOp a.eval o).run c.P w = .ok (.value (.slice (some ⟨ρ.s j,1,none⟩) (m-1) (cap-1))) w:=by
  have hr:=run_slice_l w t (some ⟨ρ.s j,0,none⟩) m cap hund kd (1:Int) (by omega) (by omega)
  rw[hsz]at hr
  have hsl:sliced (some ⟨ρ.s j,0,none⟩) (1:Int).toNat m cap 1 = .slice (some ⟨ρ.s j,1,none⟩) (m-1) (cap-1):=by
   unfold sliced
   rw[if_neg (show ¬cap=(1:Int).toNat by show ¬cap=1;omega)]
   rfl
  have hr':(Instr.sliceAt t (.slice (some ⟨ρ.s j,0,none⟩) m cap) (some (.int kd 1)) none none).run c.P w = .ok (.slice (some ⟨ρ.s j,1,none⟩) (m-1) (cap-1)) w:=by
   rw[run_sliceAt_slice w t _ _ _ _ hund,hr,←hsl];rfl
  simp[execOp,hop,h1,h2,hr']
 refine Oc.value hrun1 ?_
 have hnn :¬(n<n):=Nat.lt_irrefl n
 have hag:=Env.p8 ρ (ρ.s j) 1 (some ⟨ρ.s j,1,none⟩,m-1,cap-1) (S:=(· < n)) hnn
 obtain⟨q1,q2,q3⟩:=Env.p9 ρ n (ρ.s j) 1 (some ⟨ρ.s j,1,none⟩,m-1,cap-1)
 obtain⟨ρ1,hρ1⟩ :∃ ρ1,ρ.bindW n (ρ.s j) 1 (some ⟨ρ.s j,1,none⟩,m-1,cap-1)=ρ1:=⟨_,rfl⟩
 rw[hρ1]at hag q1 q2 q3
 have hW1:WI c.w0 c.L ρ1 (look ((n,.pin [])::M)) (· < n+1) w:=by
  rw[zD]
  have:=hi.wi.addR hag (i:=n) (o:=.pin []) (fun p hp=>by cases hp) (fun _ _ h=>h) (fun p hp=>by cases hp)
  exact this.mono fun q hq=>by have hq:q<n∨q=n:=hq;show q<n+1;omega
 have hi1:=hi.put (ρ':=ρ1) hd hag (Nat.le_succ n) (v:=.opq n) (Nat.lt_succ_self n) hW1 (.inRegion ops (i2::r)::k)
 rw[show(SV.opq n).conc ρ1 = .slice (some ⟨ρ.s j,1,none⟩) (m-1) (cap-1)by simp only[SV.conc,q3]]at hi1
 rw[hd1]at hi1 ⊢
 generalize a.put (some d1) (.slice (some ⟨ρ.s j,1,none⟩) (m-1) (cap-1))=a1 at hi1 ⊢
 have hev:a1.eval (.tmp d1) = .slice (some ⟨ρ.s j,1,none⟩) (m-1) (cap-1):=by
  have:=(qT hi1.tm (x:=.tmp d1) (v:=.opq n) (by show look (jW T (some d1) (.opq n)) d1=_;rw[yO];simp[updD,upd])).1
  rw[this]
  simp only[SV.conc,q3]
 have hT1:TmOk ρ1 (look T) (· < n+1) a1:=fun tt v hv=>by
  refine hi1.tm tt v ?_
  show look (jW T (some d1) (.opq n)) tt=some v
  rw[yO]
  have:tt≠d1:=fun e=>by rw[e,hn1]at hv;cases hv
  simp[updD,upd,this.symm,hv]
 obtain⟨h3,_⟩:=qT hT1 hx2
 refine TW.op ho2 (z7 (T:=look T) hT1 (by simp only[jE,hg2])) ?_
 have hq1:look ((n,SObj.pin [])::M) q=some (.cells [] te):=by
  rw[zH,if_neg]
  ·exact hq
  ·intro e;subst e;exact Nat.lt_irrefl _ (hi.wi.mem _ _ hq).1
 obtain⟨hSj,hscj,hq0,hcb⟩:=hW1.mem q _ hq1
 have hown:w.ownsRow 0 te 1 (.slice (some ⟨ρ1.s q,0,none⟩) 0 0) 0 []:=
  ⟨by simp,.inr ⟨ρ1.s q,0,#[],rfl,Nat.zero_le _,hcb,Nat.le_refl _,Nat.zero_le _,by simp,by simp⟩⟩
 have hx1:a1.eval x2 = .slice (some ⟨ρ1.s q,0,none⟩) 0 0:=by rw[h3];simp only[SV.conc,hq0,Nat.add_zero]
 have hcl:(SV.concs ρ xs).length=m:=by rw[qU];omega
 have hcell :∀jj u,((SV.concs ρ xs).drop 1)[jj]? = some u→w.cell? ((⟨ρ.s j,1,none⟩:Addr).add jj)=some u:=fun jj u hu=>by
  rw[jL]
  rw[List.getElem?_drop]at hu
  have hlt:1+jj<m:=by have:=(List.getElem?_eq_some_iff.1 hu).1;omega
  unfold World.cell?
  rw[show(⟨ρ.s j,1+jj,none⟩:Addr).block=ρ.s j from rfl,hheap]
  simpa[List.getElem?_append_left,hcl,hlt]using hu
 obtain⟨v',w',row,r1,r2,r3,r4,r5⟩:=xP (P:=c.P) w t o2.type te inf z 1 hdd1 g2 i3 g3 hzs Nat.one_pos _ 0 _ hown ⟨ρ.s j,1,none⟩ (m-1) (cap-1) ((SV.concs ρ xs).drop 1) (by rw[List.length_drop,hcl,Nat.mul_one]) hcell (fun u hu=>hone ρ u (List.mem_of_mem_drop hu)) (by simp only[maxLen];omega) (by
  rw[g4,Nat.zero_add]
  have:(m-1)*bytes≤1000*1000:=Nat.mul_le_mul (by omega) hby
  omega)
 rw[Nat.zero_add,List.nil_append]at r2
 have hrun:(execOp a1.eval o2).run c.P w = .ok (.value v') w':=by
  simp[execOp,hop2,resolve,invoke,builtin,hx1,hev,r1]
 have hsub :∀kk oo,look M' kk=some oo→look ((n,SObj.pin [])::M) kk=some oo:=fun kk oo hk=>by
  have h4:=(hM'.mem _ (qH hk)).1
  rw[zH,if_neg]
  ·exact h4
  ·intro e;subst e;exact Nat.lt_irrefl _ (hi.wi.mem _ _ h4).1
 have hcd:SV.concs ρ1 (xs.drop 1)=(SV.concs ρ xs).drop 1:=by
  have hscd:SV.scs (· < n) (xs.drop 1):=yN hscr fun x hx=>List.mem_of_mem_drop hx
  rw[jS hag _ hscd,zT,zT,List.map_drop]
 rw[←hcd]at r2
 obtain⟨hW',hag'⟩:=hW1.rowTo hsub (i:=n+1) (Nat.lt_irrefl (n+1)) (xs:=xs.drop 1) (t:=te) (e:=1) (n:=m-1) r3 (fun b hb=>by
  rcases r4 with r4|r4
  ·rw[r4]at hb;cases hb
  ·rw[r4]at hb
   obtain rfl:=Option.some.inj hb
   exact⟨fun kk oo hk ck=>by
    have h4:=hM'.mem _ (qH hk)
    exact hW1.dist kk q oo _ (hsub kk oo hk) hq1 h4.2 ck trivial,hW1.new q _ hq1 trivial⟩) r5 r2 (yN (SV.pP (fun i (h:i<n)=>Nat.lt_succ_of_lt h) _ hscr) fun x hx=>List.mem_of_mem_drop hx)
 refine Oc.value hrun ?_
 have hW2:WI c.w0 c.L (ρ1.bindV (n+1) v') (look ((n+1,.row 1 (m-1) (xs.drop 1) te)::M')) (· < n+2) w':=by
  rw[zD];exact hW'.mono fun q hq=>by have hq:q<n+1∨q=n+1:=hq;omega
 have hi2:Inv c ρ1 ⟨T,(n,.pin [])::M,n+1,D,.inRegion ops (i2::r)::k⟩ a1 w:=⟨hi1.sz,hT1,hi1.df,hW1⟩
 have hinv:=hi2.put (ρ':=ρ1.bindV (n+1) v') hd2 hag' (Nat.le_succ (n+1)) (v:=.opq (n+1)) (Nat.lt_succ_self (n+1)) hW2 (.inRegion ops r::k)
 rw[yH r2]at hinv
 exact h.go _ _ w' hinv
end Go.Sx
namespace Go.Proofs.Ytnnlpdgnlccbjaa
open Go.Sx
set_option maxRecDepth 100000
set_option maxHeartbeats 8000000
theorem rsim_spec (inp tk:Int)(ins:List Int)(hin:ins.length≤100000) :
  BSpec Try.prog 86 [.ptr 0 0,.opq 20] ((0,.cells [.opq 1,ii inp,nq,ii tk,.opq 2,.opq 3] 192)::(1,.rwin 8 1 ([qW].flatMap Prm.vals))::(2,.row 2 1 [ii 0,ii 0] 139)::(3,.row 1 16 [.opq 4,.opq 5,.opq 6,.opq 7,.opq 8,.opq 9,.opq 10,.opq 11,.opq 12,.opq 13,.opq 14,.opq 15,.opq 16,.opq 17,.opq 18,.opq 19] 27)::(4,.rwin 1 1 [.int .i64 0])::(5,.rwin 1 1 [.int .i64 0])::(6,.rwin 1 1 [.int .i64 0])::(7,.rwin 1 1 [.int .i64 0])::(8,.rwin 1 1 [.int .i64 0])::(9,.rwin 1 1 [.int .i64 0])::(10,.rwin 1 1 [.int .i64 0])::(11,.rwin 1 1 [.int .i64 0])::(12,.rwin 1 1 [.int .i64 0])::(13,.rwin 1 1 [.int .i64 0])::(14,.rwin 1 1 [.int .i64 0])::(15,.rwin 1 1 [.int .i64 0])::(16,.rwin 1 1 [.int .i64 0])::(17,.rwin 1 1 [.int .i64 0])::(18,.rwin 1 1 [.int .i64 0])::(19,.rwin 1 1 [.int .i64 0])::(20,.rwin 1 ins.length (qB ins))::[]) 21 [0,2,3] (nq) ((21,.row 1 16 [.opq 5,.opq 6,.opq 7,.opq 8,.opq 9,.opq 10,.opq 11,.opq 12,.opq 13,.opq 14,.opq 15,.opq 16,.opq 17,.opq 18,.opq 19,.opq 22] 27)::(22,.row 1 1 [ii 0] 3)::(0,.cells [.opq 1,ii inp,nq,ii (W (tk+1)),.opq 2,.opq 21] 192)::(2,.row 2 1 [ii 0,ii 0] 139)::[]) 23:=by
 have hpf:PF.oks Try.prog [(87,FPSI goSV)]:=⟨go_pure,trivial⟩
 have hc :∀w L' rd,(∀p,rd=some p→p∈L')→Cx.ok ⟨Try.prog,tab,[(87,FPSI goSV)],86,Try.f86,[],w,L',rd⟩:=fun w L' rd h=>⟨qI,hpf,Try.func86,mixed,h⟩
 refine BSpec.start (tab:=tab) (pf:=[(87,FPSI goSV)]) (cuts:=[]) Try.func86 rfl ⟨(show 0<21 by decide),ltb rfl,trivial⟩ rfl fun w L0 plp hL hLB hcov=>Run.r6 (hc w L0 none nofun) 100 _ ?_
 generalize hRR:SpecR _ _ _ _ _ _=RR
 conv=>whnf
 refine Run.W2 hc ?_
 conv=>whnf
 refine Run.pU (hc w L0 none nofun) fun l0 hl0=> ?_
 have hL70 :∀p∈L0,p.1<70:=fun p hp=>by have:=hLB p hp;omega
 have hIn :∀n,23≤n→In n ((22,.kmap false true [])::(21,.pin plp)::(0,.cells [.opq 1,ii inp,nq,ii tk,.opq 2,.opq 3] 192)::(1,.rwin 8 1 ([qW].flatMap Prm.vals))::(2,.row 2 1 [ii 0,ii 0] 139)::(3,.row 1 16 [.opq 4,.opq 5,.opq 6,.opq 7,.opq 8,.opq 9,.opq 10,.opq 11,.opq 12,.opq 13,.opq 14,.opq 15,.opq 16,.opq 17,.opq 18,.opq 19] 27)::(4,.rwin 1 1 [.int .i64 0])::(5,.rwin 1 1 [.int .i64 0])::(6,.rwin 1 1 [.int .i64 0])::(7,.rwin 1 1 [.int .i64 0])::(8,.rwin 1 1 [.int .i64 0])::(9,.rwin 1 1 [.int .i64 0])::(10,.rwin 1 1 [.int .i64 0])::(11,.rwin 1 1 [.int .i64 0])::(12,.rwin 1 1 [.int .i64 0])::(13,.rwin 1 1 [.int .i64 0])::(14,.rwin 1 1 [.int .i64 0])::(15,.rwin 1 1 [.int .i64 0])::(16,.rwin 1 1 [.int .i64 0])::(17,.rwin 1 1 [.int .i64 0])::(18,.rwin 1 1 [.int .i64 0])::(19,.rwin 1 1 [.int .i64 0])::(20,.rwin 1 ins.length (qB ins))::[]):=fun n hn=>(by repeat first|exact trivial|refine⟨⟨by omega,Os.h _⟩,?_⟩|refine⟨⟨by omega,fun p hp=>Nat.lt_of_lt_of_le (hcov.1 p hp) (by omega)⟩,?_⟩|refine⟨⟨by omega,trivial,trivial,trivial⟩,?_⟩|refine⟨⟨by omega,by simp[SObj.sc,SV.scs,SV.sc];omega⟩,?_⟩)
 have hIn70:=hIn 70 (by decide)
 have hlin:=Lin.ofGo [0,1,2,3,4,5,6,7,8,9,10,11,12,13,14,15,16,17,18,19,20,21,22,23,24,25,26,27,28,29,30,31,32,33,34,35] hl0 rfl (by decide)
 apply joinA (k:=_) [(0,.ptr 0 0),(1,.opq 20),(5,.mp 22),(6,nq),(7,ii 0),(8,.v (.bool false))] ((22,.kmap false true [])::(21,.pin plp)::(0,.cells [.opq 1,ii inp,nq,ii tk,.opq 2,.opq 3] 192)::(1,.rwin 8 1 ([qW].flatMap Prm.vals))::(2,.row 2 1 [ii 0,ii 0] 139)::(3,.row 1 16 [.opq 4,.opq 5,.opq 6,.opq 7,.opq 8,.opq 9,.opq 10,.opq 11,.opq 12,.opq 13,.opq 14,.opq 15,.opq 16,.opq 17,.opq 18,.opq 19] 27)::(4,.rwin 1 1 [.int .i64 0])::(5,.rwin 1 1 [.int .i64 0])::(6,.rwin 1 1 [.int .i64 0])::(7,.rwin 1 1 [.int .i64 0])::(8,.rwin 1 1 [.int .i64 0])::(9,.rwin 1 1 [.int .i64 0])::(10,.rwin 1 1 [.int .i64 0])::(11,.rwin 1 1 [.int .i64 0])::(12,.rwin 1 1 [.int .i64 0])::(13,.rwin 1 1 [.int .i64 0])::(14,.rwin 1 1 [.int .i64 0])::(15,.rwin 1 1 [.int .i64 0])::(16,.rwin 1 1 [.int .i64 0])::(17,.rwin 1 1 [.int .i64 0])::(18,.rwin 1 1 [.int .i64 0])::(19,.rwin 1 1 [.int .i64 0])::(20,.rwin 1 ins.length (qB ins))::[]) 70 []
 ·intro g1
  refine Run.pE (hc w L0 none nofun) [0,1,2,3,4,5,6,7,8,9,10,11,12,13,14,15,16,17,18,19,20,21,22,23,24,25,26,27,28,29,30,31,33,34] [32] [35] hlin ?_
  conv=>whnf
  repeat (refine⟨by omega,?_⟩;conv=>whnf)
  refine⟨by kernel_rfl,fun l1 hl1=> ?_,.inr ⟨[(0,.ptr 0 0),(1,.opq 20),(5,.mp 22),(6,nq),(7,ii 0),(23,.tup [.agg [ii 0,ii 0],.v (.bool false)])],((22,.kmap false true [])::(21,.pin plp)::(0,.cells [.opq 1,ii inp,nq,ii tk,.opq 2,.opq 3] 192)::(1,.rwin 8 1 ([qW].flatMap Prm.vals))::(2,.row 2 1 [ii 0,ii 0] 139)::(3,.row 1 16 [.opq 4,.opq 5,.opq 6,.opq 7,.opq 8,.opq 9,.opq 10,.opq 11,.opq 12,.opq 13,.opq 14,.opq 15,.opq 16,.opq 17,.opq 18,.opq 19] 27)::(4,.rwin 1 1 [.int .i64 0])::(5,.rwin 1 1 [.int .i64 0])::(6,.rwin 1 1 [.int .i64 0])::(7,.rwin 1 1 [.int .i64 0])::(8,.rwin 1 1 [.int .i64 0])::(9,.rwin 1 1 [.int .i64 0])::(10,.rwin 1 1 [.int .i64 0])::(11,.rwin 1 1 [.int .i64 0])::(12,.rwin 1 1 [.int .i64 0])::(13,.rwin 1 1 [.int .i64 0])::(14,.rwin 1 1 [.int .i64 0])::(15,.rwin 1 1 [.int .i64 0])::(16,.rwin 1 1 [.int .i64 0])::(17,.rwin 1 1 [.int .i64 0])::(18,.rwin 1 1 [.int .i64 0])::(19,.rwin 1 1 [.int .i64 0])::(20,.rwin 1 ins.length (qB ins))::[]),by kernel_rfl,⟨rfl,rfl,rfl,rfl,rfl,rfl,trivial⟩,(by repeat first|exact trivial|refine⟨rfl,?_⟩),fun l1 hl1=> ?_⟩⟩
  ·refine Run.pE (hc w L0 none nofun) [35] [] [] hl1 ?_
   conv=>whnf
   refine⟨by kernel_rfl,fun l3 hl3=> ?_,.inl rfl⟩
   exact Run.r8 (g1 l3 hl3) rfl rfl rfl hIn70 hL70
  ·refine Run.pE (hc w L0 none nofun) [32,35] [] [] hl1 ?_
   conv=>whnf
   refine⟨by kernel_rfl,fun l3 hl3=> ?_,.inl rfl⟩
   exact Run.r8 (g1 l3 hl3) rfl rfl rfl hIn70 hL70
 intro l1 hl1
 obtain rfl:=hl1.nil
 refine Run.W2 hc ?_
 conv=>whnf
 refine Run.W2 hc ?_
 conv=>whnf
 have hInI :∀i n,23≤n→In n ((22,.kmap false true (qA (sendY [] ins i)))::(21,.pin plp)::(0,.cells [.opq 1,ii inp,nq,ii tk,.opq 2,.opq 3] 192)::(1,.rwin 8 1 ([qW].flatMap Prm.vals))::(2,.row 2 1 [ii 0,ii 0] 139)::(3,.row 1 16 [.opq 4,.opq 5,.opq 6,.opq 7,.opq 8,.opq 9,.opq 10,.opq 11,.opq 12,.opq 13,.opq 14,.opq 15,.opq 16,.opq 17,.opq 18,.opq 19] 27)::(4,.rwin 1 1 [.int .i64 0])::(5,.rwin 1 1 [.int .i64 0])::(6,.rwin 1 1 [.int .i64 0])::(7,.rwin 1 1 [.int .i64 0])::(8,.rwin 1 1 [.int .i64 0])::(9,.rwin 1 1 [.int .i64 0])::(10,.rwin 1 1 [.int .i64 0])::(11,.rwin 1 1 [.int .i64 0])::(12,.rwin 1 1 [.int .i64 0])::(13,.rwin 1 1 [.int .i64 0])::(14,.rwin 1 1 [.int .i64 0])::(15,.rwin 1 1 [.int .i64 0])::(16,.rwin 1 1 [.int .i64 0])::(17,.rwin 1 1 [.int .i64 0])::(18,.rwin 1 1 [.int .i64 0])::(19,.rwin 1 1 [.int .i64 0])::(20,.rwin 1 ins.length (qB ins))::[]):=fun i n hn=>⟨⟨by omega,Os.h _⟩,(hIn n hn).2⟩
 refine Run.pR (T:=fun i=>[(0,.ptr 0 0),(1,.opq 20),(5,.mp 22),(6,nq),(9,ii ((i:Nat):Int))]) (M:=fun i=>((22,.kmap false true (qA (sendY [] ins i)))::(21,.pin plp)::(0,.cells [.opq 1,ii inp,nq,ii tk,.opq 2,.opq 3] 192)::(1,.rwin 8 1 ([qW].flatMap Prm.vals))::(2,.row 2 1 [ii 0,ii 0] 139)::(3,.row 1 16 [.opq 4,.opq 5,.opq 6,.opq 7,.opq 8,.opq 9,.opq 10,.opq 11,.opq 12,.opq 13,.opq 14,.opq 15,.opq 16,.opq 17,.opq 18,.opq 19] 27)::(4,.rwin 1 1 [.int .i64 0])::(5,.rwin 1 1 [.int .i64 0])::(6,.rwin 1 1 [.int .i64 0])::(7,.rwin 1 1 [.int .i64 0])::(8,.rwin 1 1 [.int .i64 0])::(9,.rwin 1 1 [.int .i64 0])::(10,.rwin 1 1 [.int .i64 0])::(11,.rwin 1 1 [.int .i64 0])::(12,.rwin 1 1 [.int .i64 0])::(13,.rwin 1 1 [.int .i64 0])::(14,.rwin 1 1 [.int .i64 0])::(15,.rwin 1 1 [.int .i64 0])::(16,.rwin 1 1 [.int .i64 0])::(17,.rwin 1 1 [.int .i64 0])::(18,.rwin 1 1 [.int .i64 0])::(19,.rwin 1 1 [.int .i64 0])::(20,.rwin 1 ins.length (qB ins))::[])) 23 (fun _=>True) ins.length rfl rfl rfl (hInI 0 23 (by decide)) (lbx hLB rfl) trivial ?_ ?_
 ·intro i hi _ ih
  have hsu:IntKind.i64.wrap (((i:Nat):Int)+1)=((i+1:Nat):Int):=zC (by omega)
  have es:=sendY_succ [] ins hi
  refine Run.W2 hc ?_
  conv=>whnf
  rw[decide_eq_true (show((i:Nat):Int)<(ins.length:Int)by omega)]
  conv=>whnf
  refine⟨by omega,?_⟩
  conv=>whnf
  rw[zR i rfl rfl rfl rfl (by rw[qD,Nat.mul_one]) (zZ hi)]
  conv=>whnf
  exact Run.r8 (ih trivial) (by rw[hsu];rfl) rfl (by rw[es,←gP];rfl) (hInI (i+1) 23 (by decide)) (lbx hLB rfl)
 ·intro _
  refine Run.W2 hc ?_
  conv=>whnf
  rw[decide_eq_false (show ¬((ins.length:Nat):Int)<(ins.length:Int)by omega)]
  conv=>whnf
  refine Run.copyTail (hc w L0 none nofun) rfl rfl rfl rfl rfl rfl rfl rfl rfl rfl rfl rfl rfl (by decide) (by decide) (fun ρ u hu=>List.all_eq_true.1 (show(SV.concs ρ [.opq 4,.opq 5,.opq 6,.opq 7,.opq 8,.opq 9,.opq 10,.opq 11,.opq 12,.opq 13,.opq 14,.opq 15,.opq 16,.opq 17,.opq 18,.opq 19]).all (·.oneCell')=true from rfl) u hu) rfl rfl rfl rfl rfl rfl (by decide) ((22,.kmap false true (qA (sendY [] ins ins.length)))::(21,.pin plp)::(0,.cells [.opq 1,ii inp,nq,ii tk,.opq 2,.opq 3] 192)::(1,.rwin 8 1 ([qW].flatMap Prm.vals))::(2,.row 2 1 [ii 0,ii 0] 139)::(4,.rwin 1 1 [.int .i64 0])::(5,.rwin 1 1 [.int .i64 0])::(6,.rwin 1 1 [.int .i64 0])::(7,.rwin 1 1 [.int .i64 0])::(8,.rwin 1 1 [.int .i64 0])::(9,.rwin 1 1 [.int .i64 0])::(10,.rwin 1 1 [.int .i64 0])::(11,.rwin 1 1 [.int .i64 0])::(12,.rwin 1 1 [.int .i64 0])::(13,.rwin 1 1 [.int .i64 0])::(14,.rwin 1 1 [.int .i64 0])::(15,.rwin 1 1 [.int .i64 0])::(16,.rwin 1 1 [.int .i64 0])::(17,.rwin 1 1 [.int .i64 0])::(18,.rwin 1 1 [.int .i64 0])::(19,.rwin 1 1 [.int .i64 0])::(20,.rwin 1 ins.length (qB ins))::[]) (by repeat first|exact trivial|refine⟨⟨rfl,(neb rfl)⟩,?_⟩) ?_
  refine Run.W2 hc ?_
  conv=>whnf
  refine Run.append (hc w L0 none nofun) rfl rfl rfl rfl rfl rfl rfl rfl rfl rfl rfl rfl rfl rfl rfl (by decide) ⟨by decide,by decide⟩ [(26,_),(0,_),(1,_),(2,_),(4,_),(5,_),(6,_),(7,_),(8,_),(9,_),(10,_),(11,_),(12,_),(13,_),(14,_),(15,_),(16,_),(17,_),(18,_),(19,_),(20,_),(21,_)] (AllP.mem (by repeat first|exact trivial|refine⟨⟨rfl,(neb rfl)⟩,?_⟩)) ?_
  refine Run.W2 hc ?_
  conv=>whnf
  refine Run.pN (n':=40) (T':=[(0,.ptr 0 0),(6,nq),(11,ii 0)]) (M':=((30,.row 1 16 [.opq 5,.opq 6,.opq 7,.opq 8,.opq 9,.opq 10,.opq 11,.opq 12,.opq 13,.opq 14,.opq 15,.opq 16,.opq 17,.opq 18,.opq 19,.opq 31] 27)::(31,.row 1 1 [ii 0] 3)::(0,.cells [.opq 1,ii inp,nq,ii tk,.opq 2,.opq 30] 192)::(2,.row 2 1 [ii 0,ii 0] 139)::(21,.pin plp)::[])) (rq [(30,28),(28,30),(31,26),(26,31)]) ?_ ?_ rfl rfl (by repeat first|exact trivial|refine⟨rfl,?_⟩|refine⟨congrArg some (jO hcov (fun i hi=>zA (qS (B:=21) rfl hi))).symm,?_⟩) (by refine(by repeat first|exact trivial|refine⟨⟨by omega,zU _ rfl⟩,?_⟩|refine⟨⟨by omega,pnx hcov rfl⟩,?_⟩)) (fun p hp=>by have:=hL p hp;simp only[List.mem_cons,List.not_mem_nil,or_false]at this;rcases this with h|h|h<;>rw[h]<;>decide)
  ·refine Run.W2 hc ?_
   conv=>whnf
   rw[←hRR]
   exact SpecR.intro 30 (by decide) hLB (by decide) hcov rfl rfl trivial (by repeat first|exact trivial|refine⟨⟨rfl,by omega,zU _ rfl⟩,?_⟩)
  ·have inv :∀i,i<40→rq [(30,28),(28,30),(31,26),(26,31)] (rq [(30,28),(28,30),(31,26),(26,31)] i)=i:=by decide
   exact fun i hi j hj hne he=>hne (by rw[←inv i hi,he,inv j hj])
def kE (l:List Evt):Nat→Nat
 | 0=>0
 |i+1=>kE l i+nAt i (evR l i)
theorem v9 (l:List Evt) :∀i,evR l i=l.drop (kE l i)
 | 0=>rfl
 |i+1=>by
  show(evR l i).drop (nAt i (evR l i))=l.drop (kE l i+nAt i (evR l i))
  rw[←List.drop_drop,←v9 l i]
theorem kE_le (l:List Evt) :∀i,kE l i≤l.length
 | 0=>Nat.zero_le _
 |i+1=>by
  have h:=nAt_le i (evR l i)
  have:=kE_le l i
  rw[v9 l i,List.length_drop]at h
  show kE l i+nAt i (evR l i)≤_
  rw[v9 l i]
  omega
theorem kE_lt {l:List Evt}{i j:Nat}(h:j<nAt i (evR l i)) :∃h:kE l i+j<l.length,l[kE l i+j].tick=i∧q9 (evR l i) (j+1)=q9 (evR l i) j++[l[kE l i+j].id]:=by
 obtain⟨h1,h2⟩:=nAt_lt h
 have h3:=sQ h1
 have hl:kE l i+j<l.length:=by rw[v9 l i,List.length_drop]at h1;omega
 have e:(evR l i)[j]=l[kE l i+j]:=by
  have :∀(L:List Evt) (hL:j<L.length),L=l.drop (kE l i)→L[j]=l[kE l i+j]:=fun L hL e=>by subst e;simp
  exact this _ h1 (v9 l i)
 rw[e]at h2 h3
 exact⟨hl,h2,h3⟩
theorem kE_end {l:List Evt}{i:Nat}(h:kE l i+nAt i (evR l i)<l.length):l[kE l i+nAt i (evR l i)].tick≠i:=by
 have h1:nAt i (evR l i)<(evR l i).length:=by
  have :∀L:List Evt,L=l.drop (kE l i)→kE l i+nAt i (evR l i)<l.length→nAt i (evR l i)<L.length:=fun L e hh=>by subst e;rw[List.length_drop];omega
  exact this _ (v9 l i) h
 have h2:=nAt_end h1
 have e:(evR l i)[nAt i (evR l i)]=l[kE l i+nAt i (evR l i)]:=by
  have :∀(q:Nat) (L:List Evt) (hL:q<L.length) (hq:kE l i+q<l.length),L=l.drop (kE l i)→L[q]=l[kE l i+q]:=fun q L hL hq e=>by subst e;simp
  exact this _ _ h1 h (v9 l i)
 rwa [e]at h2
theorem netChk1 {inp:Int}(h:zQ ⟨[qW],inp,[]⟩=0):0≤inp∧inp≤256:=by
 unfold zQ at h
 split at h
 ·cases h
 split at h
 ·cases h
 split at h
 ·cases h
 rename_i h1 h2 h3
 have h3' :¬inp<0:=h3
 have h2' :¬(decide (1024<((1:Nat):Int))||decide (256<inp)||decide (8192<((0:Nat):Int)))=true:=h2
 simp at h2'
 omega
theorem In.mono {a b:Nat}(h:a≤b){M:List (Nat×SObj)}(hM:In a M):In b M:=tN (fun _ hx=>⟨Nat.lt_of_lt_of_le hx.1 h,SObj.sc_mono (fun _ hj=>Nat.lt_of_lt_of_le hj h) hx.2⟩) hM
theorem rrun_spec (inp:Int)(l:List Evt)(K:Int):BSpec Try.prog 54 [.agg [.opq 0,ii inp,.v (.slice none 0 0)],.opq 1,ii K] [(0,.rwin 8 1 ([qW].flatMap Prm.vals)),(1,.rwin 2 l.length (l.flatMap Evt.vals))] 2 [] (.tup [.v (.slice none 0 0),ii (zS ⟨[qW],inp,[]⟩ l K 10000)]) [] 2:=by
 have hc :∀w L' rd,(∀p,rd=some p→p∈L')→Cx.ok ⟨Try.prog,tab,[],54,Try.f54,[],w,L',rd⟩:=fun w L' rd h=>⟨qI,trivial,Try.func54,mixed,h⟩
 refine BSpec.start (tab:=tab) (pf:=[]) (cuts:=[]) Try.func54 rfl ⟨⟨(show 0<2 by decide),trivial,trivial,trivial⟩,(show 1<2 by decide),trivial,trivial⟩ rfl fun w L0 plp hL hLB hcov=>Run.r6 (hc w L0 none nofun) 100 _ ?_
 generalize hRR:SpecR _ _ _ _ _ _=RR
 have fin :∀x:Int,zS ⟨[qW],inp,[]⟩ l K 10000=x → ∀{M:List (Nat×SObj)} {n:Nat},Sx.look M 2=some (.pin plp)→RetOk ⟨Try.prog,tab,[],54,Try.f54,[],w,L0,none⟩ M n (.tup [nq,ii x]) RR:=fun x hx M n hM=>by
  subst hx
  rw[←hRR]
  exact SpecR.intro 2 (Nat.le_refl _) hLB (Nat.le_refl _) hcov hM rfl ⟨trivial,trivial,trivial⟩ trivial
 clear hRR
 conv=>whnf
 have h0S :∀w',RowsAt w' (.slice none 0 0) 4 0 []:=fun w'=>⟨rfl,none,0,rfl,Nat.le_refl _,.inl rfl⟩
 obtain⟨ck,hck⟩ :∃ck,zQ ⟨[qW],inp,[]⟩=ck:=⟨_,rfl⟩
 refine Run.pB (g:=45) (vs:=[.agg [.opq 0,ii inp,nq]]) (caps:=[]) (ii ck) (fun ρ w1 hW=>by
  rw[←hck]
  exact sI ((SV.opq 0).conc ρ) (.slice none 0 0) ⟨[qW],inp,[]⟩ w1 ⟨hW.rowsAt rfl,h0S w1⟩) (ent _ _ Try.func45 (by kernel_rfl) rfl) rfl rfl rfl rfl rfl rfl rfl trivial ?_
 refine Run.W2 hc ?_
 conv=>whnf
 cases e1:ck != 0
 case true=>
  conv=>whnf
  exact fin ck (by unfold zS;rw[hck,if_pos (by simpa using e1)]) rfl
 have e1':ck=0:=by simpa using e1
 subst e1'
 have hin:=netChk1 hck
 conv=>whnf
 cases e2:decide (K<0)
 case true=>
  have e2':=of_decide_eq_true e2
  conv=>whnf
  exact fin 3 (by unfold zS;rw[if_neg (by rw[hck];simp),if_pos (by rw[Bool.eq_false_iff];intro hw;have:=wi_iff.1 hw;omega)]) rfl
 have e2':=of_decide_eq_false e2
 conv=>whnf
 cases e3:decide (10000<K)
 case true=>
  have e3':=of_decide_eq_true e3
  conv=>whnf
  exact fin 3 (by unfold zS;rw[if_neg (by rw[hck];simp),if_pos (by rw[Bool.eq_false_iff];intro hw;have:=wi_iff.1 hw;omega)]) rfl
 have e3':=of_decide_eq_false e3
 have hpc:zS ⟨[qW],inp,[]⟩ l K 10000=j6 inp 10000 l:=by
  unfold zS
  rw[if_neg (by rw[hck];simp),if_neg (by rw[Bool.not_eq_false];exact wi_iff.2 ⟨by omega,by omega⟩)]
 conv=>whnf
 obtain⟨ec,hec⟩ :∃ec,j6 inp 10000 l=ec:=⟨_,rfl⟩
 refine Run.pB (g:=84) (vs:=[.agg [.opq 0,ii inp,nq],.opq 1,ii 10000]) (caps:=[]) (ii ec) (fun ρ w1 hW=>by
  rw[←hec]
  exact revents_run ((SV.opq 0).conc ρ) (.slice none 0 0) ⟨[qW],inp,[]⟩ ((SV.opq 1).conc ρ) l w1 ⟨hW.rowsAt rfl,h0S w1⟩ (hW.rowsAt rfl) (by show 0≤inp∧inp≤100000;omega)) (ent _ _ Try.func84 (by kernel_rfl) rfl) rfl rfl rfl rfl rfl rfl rfl trivial ?_
 refine Run.W2 hc ?_
 conv=>whnf
 cases e4:ec != 0
 case true=>
  conv=>whnf
  exact fin ec (by rw[hpc,hec]) rfl
 have e4':ec=0:=by simpa using e4
 subst e4'
 have fin0:= @fin 0 (by rw[hpc,hec])
 clear fin
 have hll:l.length≤65536:=by
  unfold j6 at hec
  split at hec
  ·cases hec
  ·omega
 obtain⟨N,hN⟩:=Int.eq_ofNat_of_zero_le (show 0≤K by omega)
 subst hN
 conv=>whnf
 refine Run.pQ (rbegin_spec inp) (ent _ _ Try.func85 (by kernel_rfl) rfl) rfl rfl rfl rfl rfl rfl rfl [.agg [.opq 0,ii inp,nq]] rfl id rfl (fun q hq=>by show q<4;omega) _ rfl (fun q _ j _ hne=>hne) rfl
  ⟨⟨by omega,Os.h _⟩,trivial⟩ rfl ⟨⟨_,rfl,Conv.refl _⟩,trivial⟩ (fun q hq=>by cases hq)
  (.ptr 4 0) ((4,.cells [.opq 0,ii inp,nq,ii 0,.opq 5,.opq 6] 192)::(5,.row 2 1 [ii 0,ii 0] 139)::(6,.row 1 16 [.opq 7,.opq 8,.opq 9,.opq 10,.opq 11,.opq 12,.opq 13,.opq 14,.opq 15,.opq 16,.opq 17,.opq 18,.opq 19,.opq 20,.opq 21,.opq 22] 27)::(7,.row 1 1 [ii 0] 3)::(8,.row 1 1 [ii 0] 3)::(9,.row 1 1 [ii 0] 3)::(10,.row 1 1 [ii 0] 3)::(11,.row 1 1 [ii 0] 3)::(12,.row 1 1 [ii 0] 3)::(13,.row 1 1 [ii 0] 3)::(14,.row 1 1 [ii 0] 3)::(15,.row 1 1 [ii 0] 3)::(16,.row 1 1 [ii 0] 3)::(17,.row 1 1 [ii 0] 3)::(18,.row 1 1 [ii 0] 3)::(19,.row 1 1 [ii 0] 3)::(20,.row 1 1 [ii 0] 3)::(21,.row 1 1 [ii 0] 3)::(22,.row 1 1 [ii 0] 3)::[]) ((1,.rwin 2 l.length (l.flatMap Evt.vals))::(0,.rwin 8 1 ([qW].flatMap Prm.vals))::(2,.pin plp)::[]) 23 rfl rfl ⟨⟨1,_,rfl,rfl,rfl,rfl⟩,⟨2,_,rfl,rfl,rfl,rfl⟩,⟨3,_,rfl,rfl,rfl,rfl⟩,⟨4,_,rfl,rfl,rfl,rfl⟩,⟨5,_,rfl,rfl,rfl,rfl⟩,⟨6,_,rfl,rfl,rfl,rfl⟩,⟨7,_,rfl,rfl,rfl,rfl⟩,⟨8,_,rfl,rfl,rfl,rfl⟩,⟨9,_,rfl,rfl,rfl,rfl⟩,⟨10,_,rfl,rfl,rfl,rfl⟩,⟨11,_,rfl,rfl,rfl,rfl⟩,⟨12,_,rfl,rfl,rfl,rfl⟩,⟨13,_,rfl,rfl,rfl,rfl⟩,⟨14,_,rfl,rfl,rfl,rfl⟩,⟨15,_,rfl,rfl,rfl,rfl⟩,⟨16,_,rfl,rfl,rfl,rfl⟩,⟨17,_,rfl,rfl,rfl,rfl⟩,⟨18,_,rfl,rfl,rfl,rfl⟩,⟨19,_,rfl,rfl,rfl,rfl⟩,trivial⟩ rfl rfl ?_
 refine Run.W2 hc ?_
 conv=>whnf
 have hIn :∀i n,23≤n→In n ((4,.cells [.opq 0,ii inp,nq,ii ((i:Nat):Int),.opq 5,.opq 6] 192)::(5,.row 2 1 [ii 0,ii 0] 139)::(6,.row 1 16 [.opq 7,.opq 8,.opq 9,.opq 10,.opq 11,.opq 12,.opq 13,.opq 14,.opq 15,.opq 16,.opq 17,.opq 18,.opq 19,.opq 20,.opq 21,.opq 22] 27)::(7,.row 1 1 [ii 0] 3)::(8,.row 1 1 [ii 0] 3)::(9,.row 1 1 [ii 0] 3)::(10,.row 1 1 [ii 0] 3)::(11,.row 1 1 [ii 0] 3)::(12,.row 1 1 [ii 0] 3)::(13,.row 1 1 [ii 0] 3)::(14,.row 1 1 [ii 0] 3)::(15,.row 1 1 [ii 0] 3)::(16,.row 1 1 [ii 0] 3)::(17,.row 1 1 [ii 0] 3)::(18,.row 1 1 [ii 0] 3)::(19,.row 1 1 [ii 0] 3)::(20,.row 1 1 [ii 0] 3)::(21,.row 1 1 [ii 0] 3)::(22,.row 1 1 [ii 0] 3)::(1,.rwin 2 l.length (l.flatMap Evt.vals))::(0,.rwin 8 1 ([qW].flatMap Prm.vals))::(2,.pin plp)::[]):=fun i n hn=>In.mono hn (show In 23 ((4,.cells [.opq 0,ii inp,nq,ii ((i:Nat):Int),.opq 5,.opq 6] 192)::(5,.row 2 1 [ii 0,ii 0] 139)::(6,.row 1 16 [.opq 7,.opq 8,.opq 9,.opq 10,.opq 11,.opq 12,.opq 13,.opq 14,.opq 15,.opq 16,.opq 17,.opq 18,.opq 19,.opq 20,.opq 21,.opq 22] 27)::(7,.row 1 1 [ii 0] 3)::(8,.row 1 1 [ii 0] 3)::(9,.row 1 1 [ii 0] 3)::(10,.row 1 1 [ii 0] 3)::(11,.row 1 1 [ii 0] 3)::(12,.row 1 1 [ii 0] 3)::(13,.row 1 1 [ii 0] 3)::(14,.row 1 1 [ii 0] 3)::(15,.row 1 1 [ii 0] 3)::(16,.row 1 1 [ii 0] 3)::(17,.row 1 1 [ii 0] 3)::(18,.row 1 1 [ii 0] 3)::(19,.row 1 1 [ii 0] 3)::(20,.row 1 1 [ii 0] 3)::(21,.row 1 1 [ii 0] 3)::(22,.row 1 1 [ii 0] 3)::(1,.rwin 2 l.length (l.flatMap Evt.vals))::(0,.rwin 8 1 ([qW].flatMap Prm.vals))::(2,.pin plp)::[])from(by repeat first|exact trivial|refine⟨⟨by omega,zU _ rfl⟩,?_⟩|refine⟨⟨by omega,Os.h _⟩,?_⟩|refine⟨⟨by omega,pnx hcov rfl⟩,?_⟩))
 have hL23 :∀p∈L0,p.1<23:=fun p hp=>by have:=hLB p hp;omega
 refine Run.pR (T:=fun i=>[(1,.opq 1),(2,ii ((N:Nat):Int)),(9,.ptr 4 0),(10,nq),(11,ii ((kE l i:Nat):Int)),(12,ii ((i:Nat):Int))]) (M:=fun i=>((4,.cells [.opq 0,ii inp,nq,ii ((i:Nat):Int),.opq 5,.opq 6] 192)::(5,.row 2 1 [ii 0,ii 0] 139)::(6,.row 1 16 [.opq 7,.opq 8,.opq 9,.opq 10,.opq 11,.opq 12,.opq 13,.opq 14,.opq 15,.opq 16,.opq 17,.opq 18,.opq 19,.opq 20,.opq 21,.opq 22] 27)::(7,.row 1 1 [ii 0] 3)::(8,.row 1 1 [ii 0] 3)::(9,.row 1 1 [ii 0] 3)::(10,.row 1 1 [ii 0] 3)::(11,.row 1 1 [ii 0] 3)::(12,.row 1 1 [ii 0] 3)::(13,.row 1 1 [ii 0] 3)::(14,.row 1 1 [ii 0] 3)::(15,.row 1 1 [ii 0] 3)::(16,.row 1 1 [ii 0] 3)::(17,.row 1 1 [ii 0] 3)::(18,.row 1 1 [ii 0] 3)::(19,.row 1 1 [ii 0] 3)::(20,.row 1 1 [ii 0] 3)::(21,.row 1 1 [ii 0] 3)::(22,.row 1 1 [ii 0] 3)::(1,.rwin 2 l.length (l.flatMap Evt.vals))::(0,.rwin 8 1 ([qW].flatMap Prm.vals))::(2,.pin plp)::[])) 23 (fun _=>True) N rfl rfl rfl (hIn 0 23 (by decide)) hL23 trivial ?_ ?_
 ·intro i hi _ ih
  have hsu:IntKind.i64.wrap (((i:Nat):Int)+1)=((i+1:Nat):Int):=zC (by omega)
  have hkl:=kE_le l i
  refine Run.W2 hc ?_
  conv=>whnf
  rw[decide_eq_true (show((i:Nat):Int)<(N:Int)by omega)]
  conv=>whnf
  generalize hX:evR l i=X
  have hlt :∀j,j<nAt i X → ∃h:kE l i+j<l.length,l[kE l i+j].tick=i∧q9 X (j+1)=q9 X j++[l[kE l i+j].id]:=fun j hj=>by subst hX;exact kE_lt hj
  have hend :∀h:kE l i+nAt i X<l.length,l[kE l i+nAt i X].tick≠i:=fun h=>by subst hX;exact kE_end h
  have hk1:kE l (i+1)=kE l i+nAt i X:=by subst hX;rfl
  have hk2:=kE_le l (i+1)
  have hXl:nAt i X≤X.length:=nAt_le _ _
  refine Run.nils (T':=[(1,.opq 1),(2,ii ((N:Nat):Int)),(9,.ptr 4 0),(10,nq),(11,ii ((kE l i+0:Nat):Int)),(12,ii ((i:Nat):Int)),(13,.opq 23)]) (M':=((23,.row 1 (q9 X 0).length ((q9 X 0).map fun x=>ii x) 3)::(4,.cells [.opq 0,ii inp,nq,ii ((i:Nat):Int),.opq 5,.opq 6] 192)::(5,.row 2 1 [ii 0,ii 0] 139)::(6,.row 1 16 [.opq 7,.opq 8,.opq 9,.opq 10,.opq 11,.opq 12,.opq 13,.opq 14,.opq 15,.opq 16,.opq 17,.opq 18,.opq 19,.opq 20,.opq 21,.opq 22] 27)::(7,.row 1 1 [ii 0] 3)::(8,.row 1 1 [ii 0] 3)::(9,.row 1 1 [ii 0] 3)::(10,.row 1 1 [ii 0] 3)::(11,.row 1 1 [ii 0] 3)::(12,.row 1 1 [ii 0] 3)::(13,.row 1 1 [ii 0] 3)::(14,.row 1 1 [ii 0] 3)::(15,.row 1 1 [ii 0] 3)::(16,.row 1 1 [ii 0] 3)::(17,.row 1 1 [ii 0] 3)::(18,.row 1 1 [ii 0] 3)::(19,.row 1 1 [ii 0] 3)::(20,.row 1 1 [ii 0] 3)::(21,.row 1 1 [ii 0] 3)::(22,.row 1 1 [ii 0] 3)::(1,.rwin 2 l.length (l.flatMap Evt.vals))::(0,.rwin 8 1 ([qW].flatMap Prm.vals))::(2,.pin plp)::[])) 1 (fun _=>.row 1 0 [] 3) (fun _ _=>.inl ⟨_,_,rfl⟩) (by repeat first|exact trivial|refine⟨⟨_,rfl,.inl rfl⟩,?_⟩|refine⟨⟨_,rfl,.inr (.inl ⟨rfl,0,by decide,rfl⟩)⟩,?_⟩) (by repeat first|exact trivial|refine⟨.inl ⟨0,by decide,rfl⟩,?_⟩|refine⟨.inr ⟨_,rfl,.inl rfl⟩,?_⟩) ?_
  have hInA :∀j,In 24 ((23,.row 1 (q9 X j).length ((q9 X j).map fun x=>ii x) 3)::(4,.cells [.opq 0,ii inp,nq,ii ((i:Nat):Int),.opq 5,.opq 6] 192)::(5,.row 2 1 [ii 0,ii 0] 139)::(6,.row 1 16 [.opq 7,.opq 8,.opq 9,.opq 10,.opq 11,.opq 12,.opq 13,.opq 14,.opq 15,.opq 16,.opq 17,.opq 18,.opq 19,.opq 20,.opq 21,.opq 22] 27)::(7,.row 1 1 [ii 0] 3)::(8,.row 1 1 [ii 0] 3)::(9,.row 1 1 [ii 0] 3)::(10,.row 1 1 [ii 0] 3)::(11,.row 1 1 [ii 0] 3)::(12,.row 1 1 [ii 0] 3)::(13,.row 1 1 [ii 0] 3)::(14,.row 1 1 [ii 0] 3)::(15,.row 1 1 [ii 0] 3)::(16,.row 1 1 [ii 0] 3)::(17,.row 1 1 [ii 0] 3)::(18,.row 1 1 [ii 0] 3)::(19,.row 1 1 [ii 0] 3)::(20,.row 1 1 [ii 0] 3)::(21,.row 1 1 [ii 0] 3)::(22,.row 1 1 [ii 0] 3)::(1,.rwin 2 l.length (l.flatMap Evt.vals))::(0,.rwin 8 1 ([qW].flatMap Prm.vals))::(2,.pin plp)::[]):=fun j=>⟨⟨by omega,Os.h _⟩,hIn i 24 (by decide)⟩
  refine Run.pD (T:=fun j=>[(1,.opq 1),(2,ii ((N:Nat):Int)),(9,.ptr 4 0),(10,nq),(11,ii ((kE l i+j:Nat):Int)),(12,ii ((i:Nat):Int)),(13,.opq 23)]) (M:=fun j=>((23,.row 1 (q9 X j).length ((q9 X j).map fun x=>ii x) 3)::(4,.cells [.opq 0,ii inp,nq,ii ((i:Nat):Int),.opq 5,.opq 6] 192)::(5,.row 2 1 [ii 0,ii 0] 139)::(6,.row 1 16 [.opq 7,.opq 8,.opq 9,.opq 10,.opq 11,.opq 12,.opq 13,.opq 14,.opq 15,.opq 16,.opq 17,.opq 18,.opq 19,.opq 20,.opq 21,.opq 22] 27)::(7,.row 1 1 [ii 0] 3)::(8,.row 1 1 [ii 0] 3)::(9,.row 1 1 [ii 0] 3)::(10,.row 1 1 [ii 0] 3)::(11,.row 1 1 [ii 0] 3)::(12,.row 1 1 [ii 0] 3)::(13,.row 1 1 [ii 0] 3)::(14,.row 1 1 [ii 0] 3)::(15,.row 1 1 [ii 0] 3)::(16,.row 1 1 [ii 0] 3)::(17,.row 1 1 [ii 0] 3)::(18,.row 1 1 [ii 0] 3)::(19,.row 1 1 [ii 0] 3)::(20,.row 1 1 [ii 0] 3)::(21,.row 1 1 [ii 0] 3)::(22,.row 1 1 [ii 0] 3)::(1,.rwin 2 l.length (l.flatMap Evt.vals))::(0,.rwin 8 1 ([qW].flatMap Prm.vals))::(2,.pin plp)::[])) (fun _=>True) (nAt i X) trivial ?_ ?_
  ·intro j hj _ ih2
   obtain⟨hj1,hj2,hj3⟩:=hlt j hj
   have hsj:IntKind.i64.wrap (((kE l i+j:Nat):Int)+1)=((kE l i+(j+1):Nat):Int):=zC (by omega)
   have hil:=kS (show j≤X.length by omega)
   refine Run.W2 hc ?_
   conv=>whnf
   rw[decide_eq_true (show((kE l i+j:Nat):Int)<(l.length:Int)by omega)]
   conv=>whnf
   refine⟨by omega,?_⟩
   conv=>whnf
   rw[qG (f:=Evt.vals) (l:=l) (kE l i+j) 0 rfl rfl rfl rfl Evt.vlen (by rw[qD]) hj1 (by decide) rfl]
   conv=>whnf
   rw[hj2,show(((i:Nat):Int)==((i:Nat):Int))=true by simp]
   conv=>whnf
   refine⟨by omega,?_⟩
   conv=>whnf
   rw[qG (f:=Evt.vals) (l:=l) (kE l i+j) 1 rfl rfl rfl rfl Evt.vlen (by rw[qD]) hj1 (by decide) rfl]
   conv=>whnf
   refine Run.append (hc w L0 none nofun) rfl rfl rfl rfl rfl rfl rfl rfl rfl rfl rfl rfl rfl rfl rfl (by decide) ⟨by omega,by omega⟩ [(4,_),(5,_),(6,_),(7,_),(8,_),(9,_),(10,_),(11,_),(12,_),(13,_),(14,_),(15,_),(16,_),(17,_),(18,_),(19,_),(20,_),(21,_),(22,_),(1,_),(0,_),(2,_)] (AllP.mem (by repeat first|exact trivial|refine⟨⟨rfl,(neb rfl)⟩,?_⟩)) ?_
   refine Run.W2 hc ?_
   conv=>whnf
   refine Run.pN (rq [(23,25),(25,23)]) (ih2 trivial) (by
    have inv :∀i,i<24→rq [(23,25),(25,23)] (rq [(23,25),(25,23)] i)=i:=by decide
    exact fun i hi j hj hne he=>hne (by rw[←inv i hi,he,inv j hj])) (by rw[hsj];rfl) rfl (by
    refine⟨by show Sx.look _ _=some (SObj.ren _ (.row 1 (q9 X (j+1)).length ((q9 X (j+1)).map fun x=>ii x) 3));rw[ofx (o:=.row _ _ (List.map _ _) _) (qK _ _),hj3,List.length_append,List.map_append];rfl,?_⟩
    repeat first|exact trivial|refine⟨rfl,?_⟩|refine⟨congrArg some (jO hcov (fun i hi=>zA (qS (B:=2) rfl hi))).symm,?_⟩) (hInA (j+1)) (fun p hp=>by have:=hL p hp;cases this)
  ·intro _
   apply vT [(1,.opq 1),(2,ii ((N:Nat):Int)),(9,.ptr 4 0),(10,nq),(11,ii ((kE l i+nAt i X:Nat):Int)),(12,ii ((i:Nat):Int)),(13,.opq 23)] ((23,.row 1 (q9 X (nAt i X)).length ((q9 X (nAt i X)).map fun x=>ii x) 3)::(4,.cells [.opq 0,ii inp,nq,ii ((i:Nat):Int),.opq 5,.opq 6] 192)::(5,.row 2 1 [ii 0,ii 0] 139)::(6,.row 1 16 [.opq 7,.opq 8,.opq 9,.opq 10,.opq 11,.opq 12,.opq 13,.opq 14,.opq 15,.opq 16,.opq 17,.opq 18,.opq 19,.opq 20,.opq 21,.opq 22] 27)::(7,.row 1 1 [ii 0] 3)::(8,.row 1 1 [ii 0] 3)::(9,.row 1 1 [ii 0] 3)::(10,.row 1 1 [ii 0] 3)::(11,.row 1 1 [ii 0] 3)::(12,.row 1 1 [ii 0] 3)::(13,.row 1 1 [ii 0] 3)::(14,.row 1 1 [ii 0] 3)::(15,.row 1 1 [ii 0] 3)::(16,.row 1 1 [ii 0] 3)::(17,.row 1 1 [ii 0] 3)::(18,.row 1 1 [ii 0] 3)::(19,.row 1 1 [ii 0] 3)::(20,.row 1 1 [ii 0] 3)::(21,.row 1 1 [ii 0] 3)::(22,.row 1 1 [ii 0] 3)::(1,.rwin 2 l.length (l.flatMap Evt.vals))::(0,.rwin 8 1 ([qW].flatMap Prm.vals))::(2,.pin plp)::[]) 24
   ·intro tail
    have hL24 :∀p∈L0,p.1<24:=fun p hp=>by have:=hLB p hp;omega
    refine Run.r6 (hc w L0 none nofun) 18 _ ?_
    conv=>whnf
    by_cases hz:kE l i+nAt i X<l.length
    ·rw[decide_eq_true (show((kE l i+nAt i X:Nat):Int)<(l.length:Int)by omega)]
     conv=>whnf
     refine⟨by omega,?_⟩
     conv=>whnf
     rw[qG (f:=Evt.vals) (l:=l) (kE l i+nAt i X) 0 rfl rfl rfl rfl Evt.vlen (by rw[qD]) hz (by decide) rfl]
     conv=>whnf
     rw[show(l[kE l i+nAt i X].tick==((i:Nat):Int))=false by simpa using hend hz]
     conv=>whnf
     exact Run.r8 tail rfl rfl rfl (hInA _) hL24
    ·rw[decide_eq_false (show ¬((kE l i+nAt i X:Nat):Int)<(l.length:Int)by omega)]
     conv=>whnf
     exact Run.r8 tail rfl rfl rfl (hInA _) hL24
   refine Run.W2 hc ?_
   conv=>whnf
   have hlen:(q9 X (nAt i X)).length≤100000:=by rw[kS hXl];omega
   refine Run.pQ (rsim_spec inp i (q9 X (nAt i X)) hlen) (ent _ _ Try.func86 (by kernel_rfl) rfl) rfl rfl rfl rfl rfl rfl rfl [.ptr 4 0,.opq 23] rfl (rq [(0,4),(1,0),(2,5),(3,6),(4,7),(5,8),(6,9),(7,10),(8,11),(9,12),(10,13),(11,14),(12,15),(13,16),(14,17),(15,18),(16,19),(17,20),(18,21),(19,22),(20,23)]) rfl (fun q hq=>by have inv :∀q,q<21→rq [(0,4),(1,0),(2,5),(3,6),(4,7),(5,8),(6,9),(7,10),(8,11),(9,12),(10,13),(11,14),(12,15),(13,16),(14,17),(15,18),(16,19),(17,20),(18,21),(19,22),(20,23)] q<24:=(by decide);exact inv q hq) [0,1,2,3,4,5,6,7,8,9,10,11,12,13,14,15,16,17,18,19,20] rfl (fun q hq j hj hne=>by have inj :∀q∈[0,1,2,3,4,5,6,7,8,9,10,11,12,13,14,15,16,17,18,19,20],∀j∈[0,1,2,3,4,5,6,7,8,9,10,11,12,13,14,15,16,17,18,19,20],q≠j→rq [(0,4),(1,0),(2,5),(3,6),(4,7),(5,8),(6,9),(7,10),(8,11),(9,12),(10,13),(11,14),(12,15),(13,16),(14,17),(15,18),(16,19),(17,20),(18,21),(19,22),(20,23)] q≠rq [(0,4),(1,0),(2,5),(3,6),(4,7),(5,8),(6,9),(7,10),(8,11),(9,12),(10,13),(11,14),(12,15),(13,16),(14,17),(15,18),(16,19),(17,20),(18,21),(19,22),(20,23)] j:=(by decide);exact inj q hq j hj hne) rfl
    (by repeat first|exact trivial|refine⟨⟨by omega,zU _ rfl⟩,?_⟩|refine⟨⟨by omega,Os.h _⟩,?_⟩) rfl (by repeat first|exact trivial|refine⟨⟨_,rfl,Conv.refl _⟩,?_⟩|refine⟨⟨_,rfl,Conv.row (by decide) (tD _)⟩,?_⟩|refine⟨⟨_,rfl,Conv.row (by decide) rfl⟩,?_⟩) (fun q hq=>by have sub :∀q∈[0,2,3],q∈[0,1,2,3,4,5,6,7,8,9,10,11,12,13,14,15,16,17,18,19,20]:=(by decide);exact sub q hq)
    (nq) ((24,.row 1 16 [.opq 8,.opq 9,.opq 10,.opq 11,.opq 12,.opq 13,.opq 14,.opq 15,.opq 16,.opq 17,.opq 18,.opq 19,.opq 20,.opq 21,.opq 22,.opq 25] 27)::(25,.row 1 1 [ii 0] 3)::(4,.cells [.opq 0,ii inp,nq,ii (W ((i:Int)+1)),.opq 5,.opq 24] 192)::(5,.row 2 1 [ii 0,ii 0] 139)::[]) ((8,.row 1 1 [ii 0] 3)::(9,.row 1 1 [ii 0] 3)::(10,.row 1 1 [ii 0] 3)::(11,.row 1 1 [ii 0] 3)::(12,.row 1 1 [ii 0] 3)::(13,.row 1 1 [ii 0] 3)::(14,.row 1 1 [ii 0] 3)::(15,.row 1 1 [ii 0] 3)::(16,.row 1 1 [ii 0] 3)::(17,.row 1 1 [ii 0] 3)::(18,.row 1 1 [ii 0] 3)::(19,.row 1 1 [ii 0] 3)::(20,.row 1 1 [ii 0] 3)::(21,.row 1 1 [ii 0] 3)::(22,.row 1 1 [ii 0] 3)::(1,.rwin 2 l.length (l.flatMap Evt.vals))::(0,.rwin 8 1 ([qW].flatMap Prm.vals))::(2,.pin plp)::[]) 26 rfl rfl ⟨⟨21,_,rfl,rfl,rfl,rfl⟩,⟨22,_,rfl,rfl,rfl,rfl⟩,⟨0,_,rfl,rfl,rfl,rfl⟩,⟨2,_,rfl,rfl,rfl,rfl⟩,trivial⟩ rfl rfl ?_
   refine Run.W2 hc ?_
   conv=>whnf
   refine Run.W2 hc ?_
   conv=>whnf
   rw[hk1]at ih
   refine Run.pN (rq [(6,24),(7,8),(8,9),(9,10),(10,11),(11,12),(12,13),(13,14),(14,15),(15,16),(16,17),(17,18),(18,19),(19,20),(20,21),(21,22),(22,25)]) (ih trivial) (by
    have inv :∀i,i<23→rq [(24,6),(8,7),(9,8),(10,9),(11,10),(12,11),(13,12),(14,13),(15,14),(16,15),(17,16),(18,17),(19,18),(20,19),(21,20),(22,21),(25,22)] (rq [(6,24),(7,8),(8,9),(9,10),(10,11),(11,12),(12,13),(13,14),(14,15),(15,16),(16,17),(17,18),(18,19),(19,20),(20,21),(21,22),(22,25)] i)=i:=by decide
    exact fun i hi j hj hne he=>hne (by rw[←inv i hi,he,inv j hj])) (by rw[hsu];rfl) rfl (by
    rw[←hsu]
    repeat first|exact trivial|refine⟨rfl,?_⟩|refine⟨congrArg some (jO hcov (fun i hi=>zA (qS (B:=2) rfl hi))).symm,?_⟩) (hIn (i+1) 23 (by decide)) (fun p hp=>by have:=hL p hp;cases this)
 ·intro _
  refine Run.W2 hc ?_
  conv=>whnf
  rw[decide_eq_false (show ¬((N:Nat):Int)<(N:Int)by omega)]
  conv=>whnf
  exact fin0 rfl
set_option maxHeartbeats 16000000
def raB (sn:Nat→List Int)(y:Syn):Bool:=decide (y.fr∈sn (y.d-1).toNat)
def raStep (sn:Nat→List Int)(S:List Syn)(m:List Mrk)(x:List Bool×List Int)(i:Nat):List Bool×List Int:=
 (x.1.set i (raB sn (S.getD i qY)),if raB sn (S.getD i qY)=true then x.2.set (S.getD i qY).to.toNat (W (x.2.getD (S.getD i qY).to.toNat 0+(m.getD i qM).w))else x.2)
def raY (sn:Nat→List Int)(S:List Syn)(m:List Mrk)(N j:Nat):List Bool×List Int:=(List.range j).foldl (raStep sn S m) (List.replicate S.length false,List.replicate N 0)
def raL (sn:Nat→List Int)(S:List Syn)(m:List Mrk)(N:Nat):List Bool×List Int:=raY sn S m N S.length
theorem t7 (sn:Nat→List Int)(S:List Syn)(m:List Mrk)(N j:Nat):raY sn S m N (j+1)=raStep sn S m (raY sn S m N j) j:=kA ..
theorem raY_len (sn:Nat→List Int)(S:List Syn)(m:List Mrk)(N:Nat) :∀j,(raY sn S m N j).1.length=S.length∧(raY sn S m N j).2.length=N
 | 0=>by simp[raY]
 |j+1=>by
  rw[t7]
  have:=raY_len sn S m N j
  unfold raStep
  refine⟨by rw[List.length_set];exact this.1,?_⟩
  split
  ·rw[List.length_set];exact this.2
  ·exact this.2
theorem raY_ge (sn:Nat→List Int)(S:List Syn)(m:List Mrk)(N k:Nat) :∀j,j≤k→(raY sn S m N j).1[k]? = (List.replicate S.length false)[k]?
 | 0,_=>by simp[raY]
 |j+1,h=>by
  rw[t7]
  unfold raStep
  rw[List.getElem?_set_ne (by omega)]
  exact raY_ge sn S m N k j (by omega)
theorem set_map_b (l:List Bool)(i:Nat)(a b:Bool):((l.set i a).map fun b=>SV.v (.bool b)).set i (.v (.bool b))=(l.set i b).map fun b=>SV.v (.bool b):=by
 rw[List.map_set,List.map_set,List.set_set]
def rnStep (gs:Prm→Ste→Int→Ste)(gb:Prm→Ste→Int→Bool)(N:List Prm)(sums:List Int)(x:List Ste×List Bool×List Int)(i:Nat):List Ste×List Bool×List Int:=
 (x.1.set i (gs (N.getD i prm0) (x.1.getD i jQ) (sums.getD i 0)),x.2.1.set i (gb (N.getD i prm0) (x.1.getD i jQ) (sums.getD i 0)),if gb (N.getD i prm0) (x.1.getD i jQ) (sums.getD i 0)=true then x.2.2++[(i:Int)]else x.2.2)
def rnY (gs:Prm→Ste→Int→Ste)(gb:Prm→Ste→Int→Bool)(N:List Prm)(sums:List Int)(st:List Ste)(j:Nat):List Ste×List Bool×List Int:=(List.range j).foldl (rnStep gs gb N sums) (st,List.replicate N.length false,[])
def rnL (N:List Prm)(sums:List Int)(st:List Ste):List Ste×List Bool×List Int:=rnY j8 yM N sums st N.length
theorem rnY_succ (gs:Prm→Ste→Int→Ste)(gb:Prm→Ste→Int→Bool)(N:List Prm)(sums:List Int)(st:List Ste)(j:Nat):rnY gs gb N sums st (j+1)=rnStep gs gb N sums (rnY gs gb N sums st j) j:=kA ..
theorem rnY_len (gs:Prm→Ste→Int→Ste)(gb:Prm→Ste→Int→Bool)(N:List Prm)(sums:List Int)(st:List Ste) :∀j,(rnY gs gb N sums st j).1.length=st.length∧(rnY gs gb N sums st j).2.1.length=N.length∧(rnY gs gb N sums st j).2.2.length≤j
 | 0=>by simp[rnY]
 |j+1=>by
  rw[rnY_succ]
  have:=rnY_len gs gb N sums st j
  unfold rnStep
  refine⟨by rw[List.length_set];exact this.1,by rw[List.length_set];exact this.2.1,?_⟩
  split
  ·simp;omega
  ·show(rnY gs gb N sums st j).2.2.length≤j+1;omega
def rrM (S:List Syn)(rs:List Rul)(pl:List Int)(tt F:Nat→List Int)(r p K:Nat)(m:List Mrk):List Mrk:=
 (rrY S pl r p (rs.getD r q8).lo (rs.getD r q8).hi ((tt r).getD p 0) ((F r).getD p 0,m) K).2
def rgP (S:List Syn)(rs:List Rul)(pl:List Int)(tt F:Nat→List Int)(Kf:Nat→Nat→Nat)(r:Nat)(m:List Mrk):Nat→List Mrk
 | 0=>m
 |p+1=>rrM S rs pl tt F r p (Kf r p) (rgP S rs pl tt F Kf r m p)
def rgY (S:List Syn)(rs:List Rul)(pl:List Int)(tt F:Nat→List Int)(N:Nat)(Kf:Nat→Nat→Nat)(m:List Mrk):Nat→List Mrk
 | 0=>m
 |r+1=>if (rs.getD r q8).sum=true then rgP S rs pl tt F Kf r (rgY S rs pl tt F N Kf m r) N else rgY S rs pl tt F N Kf m r
def RgOK (S:List Syn)(rs:List Rul)(pl:List Int)(tt F:Nat→List Int)(N:Nat)(Kf:Nat→Nat→Nat)(m:List Mrk):Prop:=
 ∀r,r<rs.length→(rs.getD r q8).sum=true → ∀p,p<N →
  (∀k,k<Kf r p→(rrY S pl r p (rs.getD r q8).lo (rs.getD r q8).hi ((tt r).getD p 0) ((F r).getD p 0,rgP S rs pl tt F Kf r (rgY S rs pl tt F N Kf m r) p) k).1≠(tt r).getD p 0) ∧
  (rrY S pl r p (rs.getD r q8).lo (rs.getD r q8).hi ((tt r).getD p 0) ((F r).getD p 0,rgP S rs pl tt F Kf r (rgY S rs pl tt F N Kf m r) p) (Kf r p)).1=(tt r).getD p 0∧(0<Kf r p→0<S.length)
theorem rrM_len (S:List Syn)(rs:List Rul)(pl:List Int)(tt F:Nat→List Int)(r p K:Nat)(m:List Mrk):(rrM S rs pl tt F r p K m).length=m.length:=rrY_len ..
theorem rgP_len (S:List Syn)(rs:List Rul)(pl:List Int)(tt F:Nat→List Int)(Kf:Nat→Nat→Nat)(r:Nat)(m:List Mrk) :∀p,(rgP S rs pl tt F Kf r m p).length=m.length
 | 0=>rfl
 |p+1=>by rw[rgP,rrM_len];exact rgP_len S rs pl tt F Kf r m p
theorem rgY_len (S:List Syn)(rs:List Rul)(pl:List Int)(tt F:Nat→List Int)(N:Nat)(Kf:Nat→Nat→Nat)(m:List Mrk) :∀r,(rgY S rs pl tt F N Kf m r).length=m.length
 | 0=>rfl
 |r+1=>by
  rw[rgY]
  split
  ·rw[rgP_len];exact rgY_len S rs pl tt F N Kf m r
  ·exact rgY_len S rs pl tt F N Kf m r
def kF (tk:SV)(inp:Int)(q:Nat):List SV:=[.opq 1,ii inp,.opq 2,.opq 4,.opq 5,.opq 6,.opq 7,tk,.opq 3,.opq q]
def sL (inputs zo:List Int)(j:Nat):List Int:=zo++(inputs.take j).map fun k=>W (-1-k)
theorem sL_succ {inputs zo:List Int}{j:Nat}(h:j<inputs.length):sL inputs zo (j+1)=sL inputs zo j++[W (-1-inputs[j])]:=by
 unfold sL
 rw[←List.take_append_getElem h,List.map_append,List.append_assoc];rfl
theorem sL_len (inputs zo:List Int)(j:Nat):(sL inputs zo j).length≤zo.length+inputs.length:=by
 unfold sL
 simp
 omega
def rpMark (r:Rul)(sp ar:Bool)(q:Int)(m:Mrk):Mrk:=
 let m2:=rchg r (yP r m) sp ar q
 ⟨m2.w,if ar=true then min 65535 (W (m2.x+r.gain))else m2.x,if sp=true then min 65535 (W (m2.y+r.gain))else m2.y,m2.e⟩
def rpStep (S:List Syn)(rs:List Rul)(pl:List Int)(arr spk:List Bool)(rw0:List Int)(m:List Mrk)(i:Nat):List Mrk:=
 if pl.getD i (-1)<0 then m else m.set i (rpMark (rs.getD (pl.getD i (-1)).toNat q8) (spk.getD (S.getD i qY).to.toNat false) (arr.getD i false) (rw0.getD (pl.getD i (-1)).toNat 0) (m.getD i qM))
def rpY (S:List Syn)(rs:List Rul)(pl:List Int)(arr spk:List Bool)(rw0:List Int)(m:List Mrk)(j:Nat):List Mrk:=(List.range j).foldl (rpStep S rs pl arr spk rw0) m
theorem rpY_succ (S:List Syn)(rs:List Rul)(pl:List Int)(arr spk:List Bool)(rw0:List Int)(m:List Mrk)(j:Nat):rpY S rs pl arr spk rw0 m (j+1)=rpStep S rs pl arr spk rw0 (rpY S rs pl arr spk rw0 m j) j:=kA ..
theorem wS (S:List Syn)(rs:List Rul)(pl:List Int)(arr spk:List Bool)(rw0:List Int)(m:List Mrk) :∀j,(rpY S rs pl arr spk rw0 m j).length=m.length
 | 0=>rfl
 |j+1=>by
  rw[rpY_succ]
  unfold rpStep
  split
  ·exact wS S rs pl arr spk rw0 m j
  ·rw[List.length_set];exact wS S rs pl arr spk rw0 m j
theorem mem_take_succ {l:List Int}{k:Nat}{a:Int}(h:k<l.length):decide (a∈l.take (k+1))=(decide (a∈l.take k)||(l[k]==a)):=by
 rw[←List.take_append_getElem h]
 simp only[List.mem_append,List.mem_singleton]
 by_cases h1:a∈l.take k
 ·simp[h1]
 ·by_cases h2:a=l[k]
  ·simp[h2]
  ·have h3:(l[k]==a)=false:=by rw[beq_eq_false_iff_ne];exact fun h=>h2 h.symm
   simp[h1,h2,h3]
abbrev goB (rs:List Rul)(N:List Prm)(sn tt:Nat→List Int)(plp:List (Nat×Nat×Nat×(Option Addr×Nat×Nat))):List (Nat×SObj):=((9,.rwin 1 (sn 0).length (qB (sn 0)))::(10,.rwin 1 (sn 1).length (qB (sn 1)))::(11,.rwin 1 (sn 2).length (qB (sn 2)))::(12,.rwin 1 (sn 3).length (qB (sn 3)))::(13,.rwin 1 (sn 4).length (qB (sn 4)))::(14,.rwin 1 (sn 5).length (qB (sn 5)))::(15,.rwin 1 (sn 6).length (qB (sn 6)))::(16,.rwin 1 (sn 7).length (qB (sn 7)))::(17,.rwin 1 (sn 8).length (qB (sn 8)))::(18,.rwin 1 (sn 9).length (qB (sn 9)))::(19,.rwin 1 (sn 10).length (qB (sn 10)))::(20,.rwin 1 (sn 11).length (qB (sn 11)))::(21,.rwin 1 (sn 12).length (qB (sn 12)))::(22,.rwin 1 (sn 13).length (qB (sn 13)))::(23,.rwin 1 (sn 14).length (qB (sn 14)))::(24,.rwin 1 (sn 15).length (qB (sn 15)))::(25,.rwin 1 (cN rs.length N.length 0) (qB (tt 0)))::(26,.rwin 1 (cN rs.length N.length 1) (qB (tt 1)))::(27,.rwin 1 (cN rs.length N.length 2) (qB (tt 2)))::(28,.rwin 1 (cN rs.length N.length 3) (qB (tt 3)))::(29,.rwin 1 (cN rs.length N.length 4) (qB (tt 4)))::(30,.rwin 1 (cN rs.length N.length 5) (qB (tt 5)))::(31,.rwin 1 (cN rs.length N.length 6) (qB (tt 6)))::(32,.rwin 1 (cN rs.length N.length 7) (qB (tt 7)))::(33,.rwin 1 (cN rs.length N.length 8) (qB (tt 8)))::(34,.rwin 1 (cN rs.length N.length 9) (qB (tt 9)))::(35,.rwin 1 (cN rs.length N.length 10) (qB (tt 10)))::(36,.rwin 1 (cN rs.length N.length 11) (qB (tt 11)))::(37,.rwin 1 (cN rs.length N.length 12) (qB (tt 12)))::(38,.rwin 1 (cN rs.length N.length 13) (qB (tt 13)))::(39,.rwin 1 (cN rs.length N.length 14) (qB (tt 14)))::(40,.rwin 1 (cN rs.length N.length 15) (qB (tt 15)))::(43,.pin plp)::[])
theorem rGo_spec (tk inp:Int)(N:List Prm)(S:List Syn)(st:List Ste)(rs:List Rul)(pl:List Int)(m:List Mrk)(sn tt:Nat→List Int)(inputs rw0:List Int)(hN1:1≤N.length)(hN:N.length≤1024)(hS:S.length≤8192)(hR:rs.length≤16)(hp:pl.length=S.length)(hm:m.length=S.length)(hst:st.length=N.length)(hrw:rw0.length=rs.length)(hsn :∀k,(sn k).length≤100000)(hin:inputs.length≤100000)(hp0 :∀i (h:i<pl.length),pl[i]<(rs.length:Int))(ht0 :∀i (h:i<S.length),0≤S[i].to)(ht1 :∀i (h:i<S.length),S[i].to<(N.length:Int))(hd0 :∀i (h:i<S.length),1≤S[i].d)(hd1 :∀i (h:i<S.length),S[i].d≤16)(hsh :∀i (h:i<rs.length),0≤rs[i].shift∧rs[i].shift≤16)(A:List Bool×List Int)(hA:raL sn S m N.length=A)(Z:List Ste×List Bool×List Int)(hZ:rnL N A.2 st=Z)(mP:List Mrk)(hP:rpY S rs pl A.1 Z.2.1 rw0 m S.length=mP)(Kf:Nat→Nat→Nat)(htt :∀k,(tt k).length=cN rs.length N.length k)(hK:RgOK S rs pl tt (rsL S pl mP rs.length N.length) N.length Kf mP) :
  BSpec Try.prog 56 [.ptr 0 0,.opq 41,.opq 42] ((0,.cells (z9 (ii tk) inp) 108)::(1,.rwin 8 N.length (N.flatMap Prm.vals))::(2,.rwin 4 S.length (S.flatMap Syn.vals))::(3,.row 2 N.length (st.flatMap Ste.cells) 139)::(4,.rwin 10 rs.length (rs.flatMap Rul.vals))::(5,.rwin 1 pl.length (qB pl))::(6,.row 4 S.length (m.flatMap Mrk.cells) 141)::(7,.row 1 rs.length (zO 25 rs.length) 27)::(8,.row 1 16 [.opq 9,.opq 10,.opq 11,.opq 12,.opq 13,.opq 14,.opq 15,.opq 16,.opq 17,.opq 18,.opq 19,.opq 20,.opq 21,.opq 22,.opq 23,.opq 24] 27)::(41,.rwin 1 inputs.length (qB inputs))::(42,.rwin 1 rw0.length (qB rw0))::(9,.rwin 1 (sn 0).length (qB (sn 0)))::(10,.rwin 1 (sn 1).length (qB (sn 1)))::(11,.rwin 1 (sn 2).length (qB (sn 2)))::(12,.rwin 1 (sn 3).length (qB (sn 3)))::(13,.rwin 1 (sn 4).length (qB (sn 4)))::(14,.rwin 1 (sn 5).length (qB (sn 5)))::(15,.rwin 1 (sn 6).length (qB (sn 6)))::(16,.rwin 1 (sn 7).length (qB (sn 7)))::(17,.rwin 1 (sn 8).length (qB (sn 8)))::(18,.rwin 1 (sn 9).length (qB (sn 9)))::(19,.rwin 1 (sn 10).length (qB (sn 10)))::(20,.rwin 1 (sn 11).length (qB (sn 11)))::(21,.rwin 1 (sn 12).length (qB (sn 12)))::(22,.rwin 1 (sn 13).length (qB (sn 13)))::(23,.rwin 1 (sn 14).length (qB (sn 14)))::(24,.rwin 1 (sn 15).length (qB (sn 15)))::(25,.rwin 1 (cN rs.length N.length 0) (qB (tt 0)))::(26,.rwin 1 (cN rs.length N.length 1) (qB (tt 1)))::(27,.rwin 1 (cN rs.length N.length 2) (qB (tt 2)))::(28,.rwin 1 (cN rs.length N.length 3) (qB (tt 3)))::(29,.rwin 1 (cN rs.length N.length 4) (qB (tt 4)))::(30,.rwin 1 (cN rs.length N.length 5) (qB (tt 5)))::(31,.rwin 1 (cN rs.length N.length 6) (qB (tt 6)))::(32,.rwin 1 (cN rs.length N.length 7) (qB (tt 7)))::(33,.rwin 1 (cN rs.length N.length 8) (qB (tt 8)))::(34,.rwin 1 (cN rs.length N.length 9) (qB (tt 9)))::(35,.rwin 1 (cN rs.length N.length 10) (qB (tt 10)))::(36,.rwin 1 (cN rs.length N.length 11) (qB (tt 11)))::(37,.rwin 1 (cN rs.length N.length 12) (qB (tt 12)))::(38,.rwin 1 (cN rs.length N.length 13) (qB (tt 13)))::(39,.rwin 1 (cN rs.length N.length 14) (qB (tt 14)))::(40,.rwin 1 (cN rs.length N.length 15) (qB (tt 15)))::[]) 43 [0,3,6,7,8] (.opq 43) [(43,.row 1 Z.2.2.length (Z.2.2.map fun x=>ii x) 3),(44,.row 1 (sL inputs Z.2.2 inputs.length).length ((sL inputs Z.2.2 inputs.length).map fun x=>ii x) 3),(45,.row 1 16 [.opq 44,.opq 9,.opq 10,.opq 11,.opq 12,.opq 13,.opq 14,.opq 15,.opq 16,.opq 17,.opq 18,.opq 19,.opq 20,.opq 21,.opq 22,.opq 23] 27),(0,.cells (kF (ii (W (tk+1))) inp 45) 108),(3,.row 2 N.length (Z.1.flatMap Ste.cells) 139),(6,.row 4 S.length ((rgY S rs pl tt (rsL S pl mP rs.length N.length) N.length Kf mP rs.length).flatMap Mrk.cells) 141),(7,.row 1 rs.length (zO 25 rs.length) 27)] 46:=by
 obtain⟨FG,hFG⟩ :∃FG,FPSI goSV=FG:=⟨_,rfl⟩
 obtain⟨FC,hFC⟩ :∃FC,z8 FCh_v=FC:=⟨_,rfl⟩
 obtain⟨FT,hFT⟩ :∃FT,z8 FTw_v=FT:=⟨_,rfl⟩
 have hGo :∀(p:Prm) (s:Ste) (x:Int) (M:Mem),FG M [.agg (p.vals.map .v),.agg s.cells,ii x]=some ([],.tup [.agg [ii (j8 p s x).v,ii (j8 p s x).rest],.v (.bool (yM p s x))]):=fun p s x M=>by rw[←hFG];rfl
 obtain⟨gs,hgs⟩ :∃gs,j8=gs:=⟨_,rfl⟩
 obtain⟨gb,hgb⟩ :∃gb,yM=gb:=⟨_,rfl⟩
 rw[hgs,hgb]at hGo
 obtain⟨arr,inq⟩:=A
 obtain⟨zs,zb,zo⟩:=Z
 have hA':raY sn S m N.length S.length=(arr,inq):=hA
 have hZ':rnY gs gb N inq st N.length=(zs,zb,zo):=by rw[←hgs,←hgb];exact hZ
 have hP':rpY S rs pl arr zb rw0 m S.length=mP:=hP
 have hmPl:mP.length=S.length:=by rw[←hP',wS,hm]
 have hTw :∀(a:Int) (M:Mem),FT M [ii a]=some ([],ii (W (a.tdiv 256))):=fun a M=>by rw[←hFT];rfl
 have hpf:PF.oks Try.prog [(87,FG),(89,FC),(88,FT)]:=by rw[←hFG,←hFC,←hFT];exact⟨go_pure,change3_pure,rG,trivial⟩
 have hc :∀w L' rd,(∀p,rd=some p→p∈L')→Cx.ok ⟨Try.prog,tab,[(87,FG),(89,FC),(88,FT)],56,Try.f56,[],w,L',rd⟩:=fun w L' rd h=>⟨qI,hpf,Try.func56,mixed,h⟩
 refine BSpec.start (tab:=tab) (pf:=[(87,FG),(89,FC),(88,FT)]) (cuts:=[]) Try.func56 rfl ⟨(show 0<43 by decide),(show 41<43 by decide),ltb rfl,trivial⟩ rfl fun w L0 plp hL' hLB hcov=> ?_
 generalize hRR:SpecR _ _ _ _ _ _=RR
 refine Run.r6 (hc w L0 none nofun) 100 _ ?_
 conv=>whnf
 rw[kW (m:=S.length) rfl rfl rfl rfl rfl rfl (by omega) (by omega),show List.replicate S.length (SV.v (.bool false))=(List.replicate S.length false).map fun b=>.v (.bool b)by simp]
 conv=>whnf
 rw[kW (m:=N.length) rfl rfl rfl rfl rfl rfl (by omega) (by omega),show List.replicate N.length (SV.v (.int .i64 0))=(List.replicate N.length (0:Int)).map fun x=>ii x by simp[ii]]
 conv=>whnf
 refine Run.lJ (T:=fun i=>[(0,.ptr 0 0),(1,.opq 41),(2,.opq 42),(6,nq),(7,.opq 44),(8,.opq 45),(9,ii ((i:Nat):Int))]) (M:=fun i=>((44,.row 1 S.length ((raY sn S m N.length i).1.map fun b=>.v (.bool b)) 4)::(45,.row 1 N.length ((raY sn S m N.length i).2.map fun x=>ii x) 3)::(0,.cells (z9 (ii tk) inp) 108)::(1,.rwin 8 N.length (N.flatMap Prm.vals))::(2,.rwin 4 S.length (S.flatMap Syn.vals))::(3,.row 2 N.length (st.flatMap Ste.cells) 139)::(4,.rwin 10 rs.length (rs.flatMap Rul.vals))::(5,.rwin 1 pl.length (qB pl))::(6,.row 4 S.length (m.flatMap Mrk.cells) 141)::(7,.row 1 rs.length (zO 25 rs.length) 27)::(8,.row 1 16 [.opq 9,.opq 10,.opq 11,.opq 12,.opq 13,.opq 14,.opq 15,.opq 16,.opq 17,.opq 18,.opq 19,.opq 20,.opq 21,.opq 22,.opq 23,.opq 24] 27)::(41,.rwin 1 inputs.length (qB inputs))::(42,.rwin 1 rw0.length (qB rw0))::goB rs N sn tt plp)) 50 (fun _=>True) S.length (by repeat first|exact trivial|refine⟨⟨rfl,ltb rfl⟩,?_⟩|refine⟨⟨rfl,trivial⟩,?_⟩) (by repeat first|exact trivial|refine⟨⟨rfl,by omega,Os.h _⟩,?_⟩|refine⟨⟨rfl,by omega,qE _ rfl⟩,?_⟩|refine⟨kw rfl rfl,?_⟩|refine⟨⟨rfl,by omega,qQ (by omega)⟩,?_⟩|refine⟨⟨rfl,by omega,pnx hcov rfl⟩,?_⟩) (lbx hLB rfl) trivial ?_ ?_
 ·intro i hi _ ih
  refine Run.W2 hc ?_
  conv=>whnf
  rw[decide_eq_true (show((i:Nat):Int)<(S.length:Int)by omega)]
  conv=>whnf
  refine⟨by omega,?_⟩
  conv=>whnf
  rw[jF (f:=Syn.vals) (l:=S) i rfl rfl rfl rfl rfl Syn.vlen (by rw[qD]) hi]
  conv=>whnf
  have hsd:S.getD i qY=S[i]:=by simp[List.getD_eq_getElem?_getD,hi]
  have him:i<m.length:=by omega
  have hmd:m.getD i qM=m[i]:=by simp[List.getD_eq_getElem?_getD,him]
  have e:=t7 sn S m N.length i
  have hal:=raY_len sn S m N.length i
  have hge:=raY_ge sn S m N.length i i (Nat.le_refl i)
  unfold raStep at e
  rw[hsd,hmd]at e
  have hy0:=ht0 i hi
  have hy1:=ht1 i hi
  have hy2:=hd0 i hi
  have hy3:=hd1 i hi
  obtain⟨y,hy⟩ :∃y,S[i]=y:=⟨_,rfl⟩
  obtain⟨mk,hmk⟩ :∃mk,m[i]=mk:=⟨_,rfl⟩
  rw[hy]at hy0 hy1 hy2 hy3 e ⊢
  rw[hmk]at e
  obtain⟨A2,hA2⟩ :∃A,raY sn S m N.length i=A:=⟨_,rfl⟩
  rw[hA2]at e hal hge ⊢
  obtain⟨arr,inq⟩:=A2
  simp only at e hal hge
  obtain⟨hal1,hal2⟩:=hal
  have hia:i<arr.length:=by omega
  have harr0:arr=arr.set i false:=by
   have h1:arr[i]=false:=by
    rw[List.getElem?_eq_getElem hia,List.getElem?_replicate,if_pos hi]at hge
    exact Option.some.inj hge
   rw[←h1,List.set_getElem_self]
  rw[e]at ih
  have hgb :∀b:Bool,((arr.set i b).map fun b=>SV.v (.bool b))[i]? = some (.v (.bool b)):=fun b=>by
   rw[List.getElem?_map,List.getElem?_set_self hia];rfl
  obtain⟨D,hD⟩ :∃D:Nat,y.d=(D:Int)+1:=⟨(y.d-1).toNat,by omega⟩
  have hDt:(y.d-1).toNat=D:=by omega
  have hDw:IntKind.i64.wrap (y.d-1)=(D:Int):=by rw[hD];show W _=_;rw[zM (by omega) (by omega)];omega
  have hD16:D<16:=by omega
  have hrb:raB sn y=decide (y.fr∈sn D):=by unfold raB;rw[hDt]
  obtain⟨b,hb⟩ :∃b,raB sn y=b:=⟨_,rfl⟩
  rw[hb]at ih
  have hbd:decide (y.fr∈sn D)=b:=by rw[←hrb,hb]
  apply vT (c:=⟨Try.prog,tab,[(87,FG),(89,FC),(88,FT)],56,Try.f56,[],w,L0,none⟩) (R:=RR) [(0,.ptr 0 0),(1,.opq 41),(2,.opq 42),(6,nq),(7,.opq 44),(8,.opq 45),(9,ii ((i:Nat):Int)),(10,.ptr 50 0),(11,.opq 61),(12,ii (((0:Nat):Nat):Int))] ((61,.rwin 1 (sn D).length (qB (sn D)))::(50,.cells (y.vals.map .v) 55)::(44,.row 1 S.length ((arr.set i false).map fun b=>.v (.bool b)) 4)::(45,.row 1 N.length (inq.map fun x=>ii x) 3)::(0,.cells (z9 (ii tk) inp) 108)::(1,.rwin 8 N.length (N.flatMap Prm.vals))::(2,.rwin 4 S.length (S.flatMap Syn.vals))::(3,.row 2 N.length (st.flatMap Ste.cells) 139)::(4,.rwin 10 rs.length (rs.flatMap Rul.vals))::(5,.rwin 1 pl.length (qB pl))::(6,.row 4 S.length (m.flatMap Mrk.cells) 141)::(7,.row 1 rs.length (zO 25 rs.length) 27)::(8,.row 1 16 [.opq 9,.opq 10,.opq 11,.opq 12,.opq 13,.opq 14,.opq 15,.opq 16,.opq 17,.opq 18,.opq 19,.opq 20,.opq 21,.opq 22,.opq 23,.opq 24] 27)::(41,.rwin 1 inputs.length (qB inputs))::(42,.rwin 1 rw0.length (qB rw0))::goB rs N sn tt plp) 64
  ·intro tail
   rcases xR hD16 with rfl|rfl|rfl|rfl|rfl|rfl|rfl|rfl|rfl|rfl|rfl|rfl|rfl|rfl|rfl|rfl
   all_goals
    refine Run.draw (hc w L0 none nofun) 9 ?_
    conv=>whnf
    rw[hDw]
    refine⟨by decide,?_⟩
    conv=>whnf
    refine⟨by kernel_rfl,?_⟩
    refine Run.W2 hc ?_
    conv=>whnf
    refine Run.again (T':=[(0,.ptr 0 0),(1,.opq 41),(2,.opq 42),(6,nq),(7,.opq 44),(8,.opq 45),(9,ii ((i:Nat):Int)),(10,.ptr 50 0),(11,.opq 61),(12,ii (((0:Nat):Nat):Int))]) _ (by rfl) (AllP.mem ⟨.inl rfl,.inl rfl,.inl rfl,.inl rfl,.inl rfl,.inl rfl,.inl rfl,.inl rfl,.inr ⟨rfl,rfl⟩,.inl rfl,trivial⟩) ?_
    exact Run.tH tail (by repeat first|exact trivial|refine⟨⟨rfl,ltb rfl⟩,?_⟩|refine⟨⟨rfl,trivial⟩,?_⟩) (by repeat first|exact trivial|refine⟨kw rfl rfl,?_⟩|refine⟨⟨rfl,by omega,Os.h _⟩,?_⟩|refine⟨⟨rfl,by omega,qE _ rfl⟩,?_⟩|refine⟨⟨rfl,by omega,qQ (by omega)⟩,?_⟩|refine⟨⟨rfl,by omega,pnx hcov rfl⟩,?_⟩|refine⟨⟨by rw[←harr0];rfl,by omega,Os.h _⟩,?_⟩) (lbx hLB rfl)
  apply vT (c:=⟨Try.prog,tab,[(87,FG),(89,FC),(88,FT)],56,Try.f56,[],w,L0,none⟩) (R:=RR) [(0,.ptr 0 0),(1,.opq 41),(2,.opq 42),(6,nq),(7,.opq 44),(8,.opq 45),(9,ii ((i:Nat):Int)),(10,.ptr 50 0)] ((50,.cells (y.vals.map .v) 55)::(44,.row 1 S.length ((arr.set i b).map fun b=>.v (.bool b)) 4)::(45,.row 1 N.length (inq.map fun x=>ii x) 3)::(0,.cells (z9 (ii tk) inp) 108)::(1,.rwin 8 N.length (N.flatMap Prm.vals))::(2,.rwin 4 S.length (S.flatMap Syn.vals))::(3,.row 2 N.length (st.flatMap Ste.cells) 139)::(4,.rwin 10 rs.length (rs.flatMap Rul.vals))::(5,.rwin 1 pl.length (qB pl))::(6,.row 4 S.length (m.flatMap Mrk.cells) 141)::(7,.row 1 rs.length (zO 25 rs.length) 27)::(8,.row 1 16 [.opq 9,.opq 10,.opq 11,.opq 12,.opq 13,.opq 14,.opq 15,.opq 16,.opq 17,.opq 18,.opq 19,.opq 20,.opq 21,.opq 22,.opq 23,.opq 24] 27)::(41,.rwin 1 inputs.length (qB inputs))::(42,.rwin 1 rw0.length (qB rw0))::goB rs N sn tt plp) 64
  ·intro tail
   have hbk0:decide (y.fr∈(sn D).take 0)=false:=by simp
   refine Run.lJ (T:=fun k=>[(0,.ptr 0 0),(1,.opq 41),(2,.opq 42),(6,nq),(7,.opq 44),(8,.opq 45),(9,ii ((i:Nat):Int)),(10,.ptr 50 0),(11,.opq 61),(12,ii ((k:Nat):Int))]) (M:=fun k=>((61,.rwin 1 (sn D).length (qB (sn D)))::(50,.cells (y.vals.map .v) 55)::(44,.row 1 S.length ((arr.set i (decide (y.fr∈(sn D).take k))).map fun b=>.v (.bool b)) 4)::(45,.row 1 N.length (inq.map fun x=>ii x) 3)::(0,.cells (z9 (ii tk) inp) 108)::(1,.rwin 8 N.length (N.flatMap Prm.vals))::(2,.rwin 4 S.length (S.flatMap Syn.vals))::(3,.row 2 N.length (st.flatMap Ste.cells) 139)::(4,.rwin 10 rs.length (rs.flatMap Rul.vals))::(5,.rwin 1 pl.length (qB pl))::(6,.row 4 S.length (m.flatMap Mrk.cells) 141)::(7,.row 1 rs.length (zO 25 rs.length) 27)::(8,.row 1 16 [.opq 9,.opq 10,.opq 11,.opq 12,.opq 13,.opq 14,.opq 15,.opq 16,.opq 17,.opq 18,.opq 19,.opq 20,.opq 21,.opq 22,.opq 23,.opq 24] 27)::(41,.rwin 1 inputs.length (qB inputs))::(42,.rwin 1 rw0.length (qB rw0))::goB rs N sn tt plp)) 64 (fun _=>True) (sn D).length (by repeat first|exact trivial|refine⟨⟨rfl,ltb rfl⟩,?_⟩|refine⟨⟨rfl,trivial⟩,?_⟩) (by repeat first|exact trivial|refine⟨kw rfl rfl,?_⟩|refine⟨⟨rfl,by omega,Os.h _⟩,?_⟩|refine⟨⟨rfl,by omega,qE _ rfl⟩,?_⟩|refine⟨⟨rfl,by omega,qQ (by omega)⟩,?_⟩|refine⟨⟨rfl,by omega,pnx hcov rfl⟩,?_⟩|refine⟨⟨by rw[hbk0];rfl,by omega,Os.h _⟩,?_⟩) (lbx hLB rfl) trivial ?_ ?_
   ·intro k hk _ ih2
    have hs0:=hsn D
    have hek:decide (y.fr∈(sn D).take (k+1))=(decide (y.fr∈(sn D).take k)||((sn D)[k]==y.fr)):=mem_take_succ hk
    rw[hek]at ih2
    generalize decide (y.fr∈(sn D).take k)=b at ih2 ⊢
    refine Run.W2 hc ?_
    conv=>whnf
    rw[decide_eq_true (show((k:Nat):Int)<((sn D).length:Int)by omega)]
    conv=>whnf
    refine Run.draw (hc w L0 none nofun) 17 ?_
    rw[show qC 0 17=qC 0 5++(qC 5 1++(qC 6 1++(qC 7 3++(qC 10 1++(qC 11 5++qC 16 1)))))from rfl]
    simp only[qP]
    conv=>whnf
    refine⟨by omega,?_⟩
    conv=>whnf
    rw[zB (c:=.v (.bool b)) i rfl rfl rfl rfl (by rw[qD,Nat.mul_one]) (hgb b)]
    conv=>whnf
    cases b
    ·conv=>whnf
     refine⟨by omega,?_⟩
     conv=>whnf
     rw[zR k rfl rfl rfl rfl (by rw[qD,Nat.mul_one]) (zZ hk)]
     conv=>whnf
     refine⟨by omega,?_⟩
     conv=>whnf
     rw[zK (v:=.v (.bool ((sn D)[k]==y.fr))) i rfl rfl rfl rfl rfl (by rw[qD,Nat.mul_one]) (by rw[List.length_map,List.length_set];omega) rfl rfl,set_map_b]
     conv=>whnf
     refine⟨by kernel_rfl,?_⟩
     refine Run.W2 hc ?_
     conv=>whnf
     rw[Bool.false_or]at ih2
     exact Run.tH (ih2 trivial) (by repeat first|exact trivial|refine⟨⟨rfl,ltb rfl⟩,?_⟩|refine⟨⟨rfl,trivial⟩,?_⟩|refine⟨⟨wsx (by omega),trivial⟩,?_⟩) (by repeat first|exact trivial|refine⟨kw rfl rfl,?_⟩|refine⟨⟨rfl,by omega,Os.h _⟩,?_⟩|refine⟨⟨rfl,by omega,qE _ rfl⟩,?_⟩|refine⟨⟨rfl,by omega,qQ (by omega)⟩,?_⟩|refine⟨⟨rfl,by omega,pnx hcov rfl⟩,?_⟩) (lbx hLB rfl)
    ·conv=>whnf
     refine⟨by omega,?_⟩
     conv=>whnf
     rw[zK (v:=.v (.bool (true))) i rfl rfl rfl rfl rfl (by rw[qD,Nat.mul_one]) (by rw[List.length_map,List.length_set];omega) rfl rfl,set_map_b]
     conv=>whnf
     refine⟨by kernel_rfl,?_⟩
     refine Run.W2 hc ?_
     conv=>whnf
     rw[Bool.true_or]at ih2
     exact Run.tH (ih2 trivial) (by repeat first|exact trivial|refine⟨⟨rfl,ltb rfl⟩,?_⟩|refine⟨⟨rfl,trivial⟩,?_⟩|refine⟨⟨wsx (by omega),trivial⟩,?_⟩) (by repeat first|exact trivial|refine⟨kw rfl rfl,?_⟩|refine⟨⟨rfl,by omega,Os.h _⟩,?_⟩|refine⟨⟨rfl,by omega,qE _ rfl⟩,?_⟩|refine⟨⟨rfl,by omega,qQ (by omega)⟩,?_⟩|refine⟨⟨rfl,by omega,pnx hcov rfl⟩,?_⟩) (lbx hLB rfl)
   ·intro _
    refine Run.r6 (hc w L0 none nofun) 10 _ ?_
    conv=>whnf
    rw[decide_eq_false (show ¬(((sn D).length:Nat):Int)<((sn D).length:Int)by omega),List.take_length,hbd]
    conv=>whnf
    exact Run.tH tail (by repeat first|exact trivial|refine⟨⟨rfl,ltb rfl⟩,?_⟩|refine⟨⟨rfl,trivial⟩,?_⟩) (by repeat first|exact trivial|refine⟨⟨rfl,by omega,Os.h _⟩,?_⟩|refine⟨⟨rfl,by omega,qE _ rfl⟩,?_⟩|refine⟨kw rfl rfl,?_⟩|refine⟨⟨rfl,by omega,qQ (by omega)⟩,?_⟩|refine⟨⟨rfl,by omega,pnx hcov rfl⟩,?_⟩) (lbx hLB rfl)
  refine Run.W2 hc ?_
  conv=>whnf
  refine⟨by omega,?_⟩
  conv=>whnf
  rw[zB (c:=.v (.bool b)) i rfl rfl rfl rfl (by rw[qD,Nat.mul_one]) (hgb b)]
  conv=>whnf
  cases b
  ·conv=>whnf
   exact Run.tH (ih trivial) ⟨⟨rfl,ltb rfl⟩,⟨rfl,ltb rfl⟩,⟨rfl,ltb rfl⟩,⟨rfl,trivial⟩,⟨rfl,ltb rfl⟩,⟨rfl,ltb rfl⟩,⟨wsx (by omega),trivial⟩,trivial⟩ (by repeat first|exact trivial|refine⟨⟨rfl,by omega,Os.h _⟩,?_⟩|refine⟨⟨rfl,by omega,qE _ rfl⟩,?_⟩|refine⟨kw rfl rfl,?_⟩|refine⟨⟨rfl,by omega,qQ (by omega)⟩,?_⟩|refine⟨⟨rfl,by omega,pnx hcov rfl⟩,?_⟩) (lbx hLB rfl)
  obtain⟨p,hp'⟩:=Int.eq_ofNat_of_zero_le hy0
  have hpN:p<N.length:=by omega
  rw[hp',show((p:Nat):Int).toNat=p from Int.toNat_natCast p]at ih
  have hgp:(inq.map fun x=>ii x)[p]? = some (ii (inq.getD p 0)):=by
   rw[List.getElem?_map,List.getElem?_eq_getElem (by omega),List.getD_eq_getElem?_getD,List.getElem?_eq_getElem (by omega)];rfl
  conv=>whnf
  refine Run.draw (hc w L0 none nofun) 16 ?_
  rw[show qC 0 16=qC 0 3++(qC 3 1++(qC 4 1++(qC 5 6++(qC 11 2++(qC 13 2++qC 15 1)))))from rfl]
  simp only[qP]
  conv=>whnf
  rw[hp']
  refine⟨by omega,?_⟩
  conv=>whnf
  rw[zB p rfl rfl rfl rfl (by rw[qD,Nat.mul_one]) hgp]
  conv=>whnf
  refine⟨by omega,?_⟩
  conv=>whnf
  rw[j7 (f:=Mrk.cells) (l:=m) i 0 rfl rfl rfl rfl Mrk.clen (by rw[qD]) him (by decide) rfl,hmk]
  conv=>whnf
  refine⟨by omega,?_⟩
  conv=>whnf
  rw[zK p rfl rfl rfl rfl rfl (by rw[qD,Nat.mul_one]) (by rw[List.length_map];omega) rfl rfl]
  conv=>whnf
  refine⟨by kernel_rfl,?_⟩
  refine Run.W2 hc ?_
  conv=>whnf
  exact Run.tH (ih trivial) ⟨⟨rfl,ltb rfl⟩,⟨rfl,ltb rfl⟩,⟨rfl,ltb rfl⟩,⟨rfl,trivial⟩,⟨rfl,ltb rfl⟩,⟨rfl,ltb rfl⟩,⟨wsx (by omega),trivial⟩,trivial⟩ (by repeat first|exact trivial|refine⟨⟨rfl,by omega,Os.h _⟩,?_⟩|refine⟨⟨rfl,by omega,qE _ rfl⟩,?_⟩|refine⟨kw rfl rfl,?_⟩|refine⟨⟨rfl,by omega,qQ (by omega)⟩,?_⟩|refine⟨⟨rfl,by omega,pnx hcov rfl⟩,?_⟩|refine⟨⟨(show _=some (SObj.row 1 N.length ((inq.set p (W (inq.getD p 0+mk.w))).map fun x=>ii x) 3)from congrArg some (by rw[List.map_set];rfl)),by omega,Os.h _⟩,?_⟩) (lbx hLB rfl)
 ·intro _
  refine Run.W2 hc ?_
  conv=>whnf
  rw[decide_eq_false (show ¬((S.length:Nat):Int)<(S.length:Int)by omega)]
  conv=>whnf
  rw[kW (m:=N.length) rfl rfl rfl rfl rfl rfl (by omega) (by omega),show List.replicate N.length (SV.v (.bool false))=(List.replicate N.length false).map fun b=>.v (.bool b)by simp]
  conv=>whnf
  have hAl:=raY_len sn S m N.length S.length
  rw[hA']at hAl ⊢
  simp only at hAl
  obtain⟨hal1,hal2⟩:=hAl
  refine Run.r7 (T':=[(0,.ptr 0 0),(1,.opq 41),(2,.opq 42),(7,.opq 44),(8,.opq 45),(13,.opq 50),(14,nq),(15,nq),(16,ii ((0:Nat):Int))]) (M':=((50,.row 1 N.length ((List.replicate N.length false).map fun b=>.v (.bool b)) 4)::(3,.row 2 N.length (st.flatMap Ste.cells) 139)::(44,.row 1 S.length (arr.map fun b=>.v (.bool b)) 4)::(45,.row 1 N.length (inq.map fun x=>ii x) 3)::(0,.cells (z9 (ii tk) inp) 108)::(1,.rwin 8 N.length (N.flatMap Prm.vals))::(2,.rwin 4 S.length (S.flatMap Syn.vals))::(4,.rwin 10 rs.length (rs.flatMap Rul.vals))::(5,.rwin 1 pl.length (qB pl))::(6,.row 4 S.length (m.flatMap Mrk.cells) 141)::(7,.row 1 rs.length (zO 25 rs.length) 27)::(8,.row 1 16 [.opq 9,.opq 10,.opq 11,.opq 12,.opq 13,.opq 14,.opq 15,.opq 16,.opq 17,.opq 18,.opq 19,.opq 20,.opq 21,.opq 22,.opq 23,.opq 24] 27)::(41,.rwin 1 inputs.length (qB inputs))::(42,.rwin 1 rw0.length (qB rw0))::goB rs N sn tt plp)) 51 (by repeat first|exact trivial|refine⟨⟨rfl,ltb rfl⟩,?_⟩|refine⟨⟨rfl,trivial⟩,?_⟩) (by repeat first|exact trivial|refine⟨⟨rfl,by omega,Os.h _⟩,?_⟩|refine⟨⟨rfl,by omega,qE _ rfl⟩,?_⟩|refine⟨kw rfl rfl,?_⟩|refine⟨⟨rfl,by omega,qQ (by omega)⟩,?_⟩|refine⟨⟨rfl,by omega,pnx hcov rfl⟩,?_⟩) (lbx hLB rfl) ?_
  refine Run.pX (T':=[(0,.ptr 0 0),(1,.opq 41),(2,.opq 42),(7,.opq 44),(8,.opq 45),(13,.opq 50),(14,.opq 51),(15,nq),(16,ii ((0:Nat):Int))]) (M':=((51,.row 1 0 [] 3)::(50,_)::(3,_)::(44,_)::(45,_)::(0,_)::(1,_)::(2,_)::(4,_)::(5,_)::(6,_)::(7,_)::(8,_)::(41,_)::(42,_)::(9,_)::(10,_)::(11,_)::(12,_)::(13,_)::(14,_)::(15,_)::(16,_)::(17,_)::(18,_)::(19,_)::(20,_)::(21,_)::(22,_)::(23,_)::(24,_)::(25,_)::(26,_)::(27,_)::(28,_)::(29,_)::(30,_)::(31,_)::(32,_)::(33,_)::(34,_)::(35,_)::(36,_)::(37,_)::(38,_)::(39,_)::(40,_)::(43,_)::[])) 1 3 (AllP.mem (by repeat first|exact trivial|refine⟨⟨_,rfl,.inl rfl⟩,?_⟩|refine⟨⟨_,rfl,.inr ⟨rfl,rfl⟩⟩,?_⟩)) (AllP.mem (by repeat first|exact trivial|refine⟨.inl rfl,?_⟩|refine⟨.inr ⟨_,rfl,.inl rfl⟩,?_⟩)) ?_
  refine Run.pX (T':=[(0,.ptr 0 0),(1,.opq 41),(2,.opq 42),(7,.opq 44),(8,.opq 45),(13,.opq 50),(14,.opq 51),(15,.opq 52),(16,ii ((0:Nat):Int))]) (M':=((52,.row 1 0 [] 3)::(51,_)::(50,_)::(3,_)::(44,_)::(45,_)::(0,_)::(1,_)::(2,_)::(4,_)::(5,_)::(6,_)::(7,_)::(8,_)::(41,_)::(42,_)::(9,_)::(10,_)::(11,_)::(12,_)::(13,_)::(14,_)::(15,_)::(16,_)::(17,_)::(18,_)::(19,_)::(20,_)::(21,_)::(22,_)::(23,_)::(24,_)::(25,_)::(26,_)::(27,_)::(28,_)::(29,_)::(30,_)::(31,_)::(32,_)::(33,_)::(34,_)::(35,_)::(36,_)::(37,_)::(38,_)::(39,_)::(40,_)::(43,_)::[])) 1 3 (AllP.mem (by repeat first|exact trivial|refine⟨⟨_,rfl,.inl rfl⟩,?_⟩|refine⟨⟨_,rfl,.inr ⟨rfl,rfl⟩⟩,?_⟩)) (AllP.mem (by repeat first|exact trivial|refine⟨.inl rfl,?_⟩|refine⟨.inr ⟨_,rfl,.inl rfl⟩,?_⟩)) ?_
  refine Run.lJ (T:=fun i=>[(0,.ptr 0 0),(1,.opq 41),(2,.opq 42),(7,.opq 44),(8,.opq 45),(13,.opq 50),(14,.opq 51),(15,.opq 52),(16,ii ((i:Nat):Int))]) (M:=fun i=>((50,.row 1 N.length ((rnY gs gb N inq st i).2.1.map fun b=>.v (.bool b)) 4)::(51,.row 1 (rnY gs gb N inq st i).2.2.length ((rnY gs gb N inq st i).2.2.map fun x=>ii x) 3)::(52,.row 1 (rnY gs gb N inq st i).2.2.length ((rnY gs gb N inq st i).2.2.map fun x=>ii x) 3)::(3,.row 2 N.length ((rnY gs gb N inq st i).1.flatMap Ste.cells) 139)::(44,.row 1 S.length (arr.map fun b=>.v (.bool b)) 4)::(45,.row 1 N.length (inq.map fun x=>ii x) 3)::(0,.cells (z9 (ii tk) inp) 108)::(1,.rwin 8 N.length (N.flatMap Prm.vals))::(2,.rwin 4 S.length (S.flatMap Syn.vals))::(4,.rwin 10 rs.length (rs.flatMap Rul.vals))::(5,.rwin 1 pl.length (qB pl))::(6,.row 4 S.length (m.flatMap Mrk.cells) 141)::(7,.row 1 rs.length (zO 25 rs.length) 27)::(8,.row 1 16 [.opq 9,.opq 10,.opq 11,.opq 12,.opq 13,.opq 14,.opq 15,.opq 16,.opq 17,.opq 18,.opq 19,.opq 20,.opq 21,.opq 22,.opq 23,.opq 24] 27)::(41,.rwin 1 inputs.length (qB inputs))::(42,.rwin 1 rw0.length (qB rw0))::goB rs N sn tt plp)) 60 (fun _=>True) N.length (by repeat first|exact trivial|refine⟨⟨rfl,ltb rfl⟩,?_⟩|refine⟨⟨rfl,trivial⟩,?_⟩) (by repeat first|exact trivial|refine⟨⟨rfl,by omega,Os.h _⟩,?_⟩|refine⟨⟨rfl,by omega,qE _ rfl⟩,?_⟩|refine⟨kw rfl rfl,?_⟩|refine⟨⟨rfl,by omega,qQ (by omega)⟩,?_⟩|refine⟨⟨rfl,by omega,pnx hcov rfl⟩,?_⟩) (lbx hLB rfl) trivial ?_ ?_
  ·intro u hi _ ih
   refine Run.W2 hc ?_
   conv=>whnf
   rw[decide_eq_true (show((u:Nat):Int)<(N.length:Int)by omega)]
   conv=>whnf
   have hgn:N.getD u prm0=N[u]:=by simp[List.getD_eq_getElem?_getD,hi]
   have e:=rnY_succ gs gb N inq st u
   have hnl:=rnY_len gs gb N inq st u
   unfold rnStep at e
   rw[hgn]at e
   obtain⟨z,hz⟩ :∃z,rnY gs gb N inq st u=z:=⟨_,rfl⟩
   rw[hz]at e hnl ⊢
   obtain⟨zs,zb,zo⟩:=z
   simp only at e hnl
   obtain⟨hl1,hl2,hl3⟩:=hnl
   have hus:u<zs.length:=by omega
   have hui:u<inq.length:=by omega
   have hgs':zs.getD u jQ=zs[u]:=by simp[List.getD_eq_getElem?_getD,hus]
   have hgi:inq.getD u 0=inq[u]:=by simp[List.getD_eq_getElem?_getD,hui]
   rw[hgs',hgi]at e
   rw[e]at ih
   obtain⟨b,hb⟩ :∃b,gb N[u] zs[u] inq[u]=b:=⟨_,rfl⟩
   have hgz:((zb.set u b).map fun b=>SV.v (.bool b))[u]? = some (.v (.bool b)):=by
    rw[List.getElem?_map,List.getElem?_set_self (by omega)];rfl
   have hgq:(inq.map fun x=>ii x)[u]? = some (ii inq[u]):=by
    rw[List.getElem?_map,List.getElem?_eq_getElem hui];rfl
   rw[hb]at ih
   refine Run.draw (hc w L0 none nofun) 34 ?_
   rw[show qC 0 34=qC 0 14++(qC 14 1++(qC 15 6++(qC 21 1++(qC 22 3++(qC 25 1++(qC 26 1++(qC 27 4++(qC 31 1++(qC 32 1++qC 33 1)))))))))from rfl]
   simp only[qP]
   conv=>whnf
   refine⟨by omega,?_⟩
   conv=>whnf
   rw[jF (f:=Prm.vals) (l:=N) u rfl rfl rfl rfl rfl Prm.vlen (by rw[qD]) hi]
   conv=>whnf
   refine⟨by omega,?_⟩
   conv=>whnf
   rw[uG (f:=Ste.cells) (l:=zs) u rfl rfl rfl rfl rfl (fun _=>rfl) (by rw[qD]) hus]
   conv=>whnf
   refine⟨by omega,?_⟩
   conv=>whnf
   rw[zB u rfl rfl rfl rfl (by rw[qD,Nat.mul_one]) hgq]
   conv=>whnf
   rw[kV (F:=FG) rfl rfl rfl rfl (hGo N[u] zs[u] inq[u] _),hb]
   conv=>whnf
   refine⟨by omega,?_⟩
   conv=>whnf
   rw[vG (e:=2) (f:=Ste.cells) (l:=zs) u (gs N[u] zs[u] inq[u]) rfl rfl rfl rfl rfl (fun _=>rfl) (by rw[qD]) hus (by decide) rfl rfl]
   conv=>whnf
   refine⟨by omega,?_⟩
   conv=>whnf
   rw[zK (v:=.v (.bool b)) u rfl rfl rfl rfl rfl (by rw[qD,Nat.mul_one]) (by rw[List.length_map];omega) rfl rfl,show((zb.map fun b=>SV.v (.bool b)).set u (.v (.bool b)))=(zb.set u b).map fun b=>SV.v (.bool b)by rw[List.map_set]]
   conv=>whnf
   refine⟨by kernel_rfl,?_⟩
   refine Run.W2 hc ?_
   conv=>whnf
   refine⟨by omega,?_⟩
   conv=>whnf
   rw[zB (c:=.v (.bool b)) u rfl rfl rfl rfl (by rw[qD,Nat.mul_one]) hgz]
   conv=>whnf
   cases b
   case false=>
    conv=>whnf
    exact Run.tH (ih trivial) (by repeat first|exact trivial|refine⟨⟨rfl,ltb rfl⟩,?_⟩|refine⟨⟨wsx (by omega),trivial⟩,?_⟩) (by repeat first|exact trivial|refine⟨⟨rfl,by omega,Os.h _⟩,?_⟩|refine⟨⟨rfl,by omega,qE _ rfl⟩,?_⟩|refine⟨kw rfl rfl,?_⟩|refine⟨⟨rfl,by omega,qQ (by omega)⟩,?_⟩|refine⟨⟨rfl,by omega,pnx hcov rfl⟩,?_⟩) (lbx hLB rfl)
   conv=>whnf
   refine Run.append (hc w L0 none nofun) rfl rfl rfl rfl rfl rfl rfl rfl rfl rfl rfl rfl rfl rfl rfl (by decide) ⟨by omega,by omega⟩ ((50,_)::(52,_)::(3,_)::(44,_)::(45,_)::(0,_)::(1,_)::(2,_)::(4,_)::(5,_)::(6,_)::(7,_)::(8,_)::(41,_)::(42,_)::(9,_)::(10,_)::(11,_)::(12,_)::(13,_)::(14,_)::(15,_)::(16,_)::(17,_)::(18,_)::(19,_)::(20,_)::(21,_)::(22,_)::(23,_)::(24,_)::(25,_)::(26,_)::(27,_)::(28,_)::(29,_)::(30,_)::(31,_)::(32,_)::(33,_)::(34,_)::(35,_)::(36,_)::(37,_)::(38,_)::(39,_)::(40,_)::(43,_)::[]) (AllP.mem (by repeat first|exact trivial|refine⟨⟨rfl,(neb rfl)⟩,?_⟩)) ?_
   refine Run.W2 hc ?_
   conv=>whnf
   refine Run.append (hc w L0 none nofun) rfl rfl rfl rfl rfl rfl rfl rfl rfl rfl rfl rfl rfl rfl rfl (by decide) ⟨by omega,by omega⟩ ((95,_)::(50,_)::(3,_)::(44,_)::(45,_)::(0,_)::(1,_)::(2,_)::(4,_)::(5,_)::(6,_)::(7,_)::(8,_)::(41,_)::(42,_)::(9,_)::(10,_)::(11,_)::(12,_)::(13,_)::(14,_)::(15,_)::(16,_)::(17,_)::(18,_)::(19,_)::(20,_)::(21,_)::(22,_)::(23,_)::(24,_)::(25,_)::(26,_)::(27,_)::(28,_)::(29,_)::(30,_)::(31,_)::(32,_)::(33,_)::(34,_)::(35,_)::(36,_)::(37,_)::(38,_)::(39,_)::(40,_)::(43,_)::[]) (AllP.mem (by repeat first|exact trivial|refine⟨⟨rfl,(neb rfl)⟩,?_⟩)) ?_
   refine Run.W2 hc ?_
   conv=>whnf
   refine Run.p6 (ih trivial) (rq [(51,95),(95,51),(52,97),(97,52)]) ?_ ?_ ?_ ?_
   ·intro i hi j hj hne he
    have inv :∀i,i<60→rq [(51,95),(95,51),(52,97),(97,52)] (rq [(51,95),(95,51),(52,97),(97,52)] i)=i:=by decide
    exact hne (by rw[←inv i hi,he,inv j hj])
   ·exact(by repeat first|exact trivial|refine⟨⟨rfl,ltb rfl⟩,?_⟩|refine⟨⟨wsx (by omega),trivial⟩,?_⟩)
   ·exact(by repeat first|exact trivial|refine⟨⟨rfl,by omega,qE _ rfl⟩,?_⟩|refine⟨kw rfl rfl,?_⟩|refine⟨⟨congrArg some (ofx (o:=.row _ _ (List.map _ _) _) (xY _ _)).symm,by omega,Os.h _⟩,?_⟩|refine⟨⟨congrArg some (show _=SObj.ren _ (.row 1 (zo++[(u:Int)]).length ((zo++[(u:Int)]).map fun x=>ii x) 3)by rw[ofx (o:=.row 1 (zo++[(u:Int)]).length ((zo++[(u:Int)]).map fun x=>ii x) 3) (qK _ _),List.map_append,List.length_append];rfl),by omega,Os.h _⟩,?_⟩|refine⟨⟨congrArg some (ofx (o:=.row _ _ (List.flatMap Ste.cells _) _) (zJ _ _)).symm,by omega,Os.h _⟩,?_⟩|refine⟨⟨congrArg some (ofx (o:=.row _ _ (List.map _ _) _) (qK _ _)).symm,by omega,Os.h _⟩,?_⟩|refine⟨⟨congrArg some (ofx (o:=.row _ _ (List.flatMap Mrk.cells _) _) (qL _ _)).symm,by omega,Os.h _⟩,?_⟩|refine⟨⟨congrArg some (yV (b:=25) (b':=25) (fun j hj=>zA (qS (B:=43) rfl (show 25+j<43 by omega)))).symm,by omega,qQ (by omega)⟩,?_⟩|refine⟨⟨congrArg some (jO hcov (fun i hi=>zA (qS (B:=43) rfl hi))).symm,by omega,pnx hcov rfl⟩,?_⟩)
   ·intro p hp
    have:=hLB p hp;exact⟨zA (qS (B:=43) rfl this),by omega⟩
  ·intro _
   refine Run.W2 hc ?_
   conv=>whnf
   rw[decide_eq_false (show ¬((N.length:Nat):Int)<(N.length:Int)by omega)]
   conv=>whnf
   have hZl:=rnY_len gs gb N inq st N.length
   rw[hZ']at hZl ⊢
   simp only at hZl
   obtain⟨hl1,hl2,hl3⟩:=hZl
   refine Run.lJ (T:=fun i=>[(0,.ptr 0 0),(1,.opq 41),(2,.opq 42),(7,.opq 44),(8,.opq 45),(13,.opq 50),(14,.opq 51),(15,.opq 52),(17,ii ((i:Nat):Int))]) (M:=fun i=>((50,.row 1 N.length (zb.map fun b=>.v (.bool b)) 4)::(51,.row 1 zo.length (zo.map fun x=>ii x) 3)::(52,.row 1 (sL inputs zo i).length ((sL inputs zo i).map fun x=>ii x) 3)::(3,.row 2 N.length (zs.flatMap Ste.cells) 139)::(44,.row 1 S.length (arr.map fun b=>.v (.bool b)) 4)::(45,.row 1 N.length (inq.map fun x=>ii x) 3)::(0,.cells (z9 (ii tk) inp) 108)::(1,.rwin 8 N.length (N.flatMap Prm.vals))::(2,.rwin 4 S.length (S.flatMap Syn.vals))::(4,.rwin 10 rs.length (rs.flatMap Rul.vals))::(5,.rwin 1 pl.length (qB pl))::(6,.row 4 S.length (m.flatMap Mrk.cells) 141)::(7,.row 1 rs.length (zO 25 rs.length) 27)::(8,.row 1 16 [.opq 9,.opq 10,.opq 11,.opq 12,.opq 13,.opq 14,.opq 15,.opq 16,.opq 17,.opq 18,.opq 19,.opq 20,.opq 21,.opq 22,.opq 23,.opq 24] 27)::(41,.rwin 1 inputs.length (qB inputs))::(42,.rwin 1 rw0.length (qB rw0))::goB rs N sn tt plp)) 60 (fun _=>True) inputs.length (by repeat first|exact trivial|refine⟨⟨rfl,ltb rfl⟩,?_⟩|refine⟨⟨rfl,trivial⟩,?_⟩) (by repeat first|exact trivial|refine⟨⟨rfl,by omega,Os.h _⟩,?_⟩|refine⟨⟨rfl,by omega,qE _ rfl⟩,?_⟩|refine⟨kw rfl rfl,?_⟩|refine⟨⟨rfl,by omega,qQ (by omega)⟩,?_⟩|refine⟨⟨rfl,by omega,pnx hcov rfl⟩,?_⟩|refine⟨⟨by rw[show sL inputs zo 0=zo by simp[sL]];rfl,by omega,Os.h _⟩,?_⟩) (lbx hLB rfl) trivial ?_ ?_
   ·intro u hi _ ih
    have hsu:=sL_succ (zo:=zo) hi
    have hsl:=sL_len inputs zo u
    refine Run.W2 hc ?_
    conv=>whnf
    rw[decide_eq_true (show((u:Nat):Int)<(inputs.length:Int)by omega)]
    conv=>whnf
    refine⟨by omega,?_⟩
    conv=>whnf
    rw[zR u rfl rfl rfl rfl (by rw[qD,Nat.mul_one]) (zZ hi)]
    conv=>whnf
    rw[hsu]at ih
    generalize sL inputs zo u=sl at hsl ih ⊢
    refine Run.append (hc w L0 none nofun) rfl rfl rfl rfl rfl rfl rfl rfl rfl rfl rfl rfl rfl rfl rfl (by decide) ⟨by omega,by omega⟩ ((50,_)::(51,_)::(3,_)::(44,_)::(45,_)::(0,_)::(1,_)::(2,_)::(4,_)::(5,_)::(6,_)::(7,_)::(8,_)::(41,_)::(42,_)::(9,_)::(10,_)::(11,_)::(12,_)::(13,_)::(14,_)::(15,_)::(16,_)::(17,_)::(18,_)::(19,_)::(20,_)::(21,_)::(22,_)::(23,_)::(24,_)::(25,_)::(26,_)::(27,_)::(28,_)::(29,_)::(30,_)::(31,_)::(32,_)::(33,_)::(34,_)::(35,_)::(36,_)::(37,_)::(38,_)::(39,_)::(40,_)::(43,_)::[]) (AllP.mem (by repeat first|exact trivial|refine⟨⟨rfl,(neb rfl)⟩,?_⟩)) ?_
    refine Run.W2 hc ?_
    conv=>whnf
    refine Run.p6 (ih trivial) (rq [(52,61),(61,52)]) ?_ ?_ ?_ ?_
    ·intro i hi j hj hne he
     have inv :∀i,i<60→rq [(52,61),(61,52)] (rq [(52,61),(61,52)] i)=i:=by decide
     exact hne (by rw[←inv i hi,he,inv j hj])
    ·exact(by repeat first|exact trivial|refine⟨⟨rfl,ltb rfl⟩,?_⟩|refine⟨⟨wsx (by omega),trivial⟩,?_⟩)
    ·exact(by repeat first|exact trivial|refine⟨⟨rfl,by omega,qE _ rfl⟩,?_⟩|refine⟨kw rfl rfl,?_⟩|refine⟨⟨congrArg some (ofx (o:=.row _ _ (List.map _ _) _) (xY _ _)).symm,by omega,Os.h _⟩,?_⟩|refine⟨⟨congrArg some (ofx (o:=.row _ _ (List.map _ _) _) (qK _ _)).symm,by omega,Os.h _⟩,?_⟩|refine⟨⟨congrArg some (show _=SObj.ren _ (.row 1 (sl++[W (-1-inputs[u])]).length ((sl++[W (-1-inputs[u])]).map fun x=>ii x) 3)by rw[ofx (o:=.row 1 (sl++[W (-1-inputs[u])]).length ((sl++[W (-1-inputs[u])]).map fun x=>ii x) 3) (qK _ _),List.map_append,List.length_append];rfl),by omega,Os.h _⟩,?_⟩|refine⟨⟨congrArg some (ofx (o:=.row _ _ (List.flatMap Ste.cells _) _) (zJ _ _)).symm,by omega,Os.h _⟩,?_⟩|refine⟨⟨congrArg some (ofx (o:=.row _ _ (List.flatMap Mrk.cells _) _) (qL _ _)).symm,by omega,Os.h _⟩,?_⟩|refine⟨⟨congrArg some (yV (b:=25) (b':=25) (fun j hj=>zA (qS (B:=43) rfl (show 25+j<43 by omega)))).symm,by omega,qQ (by omega)⟩,?_⟩|refine⟨⟨congrArg some (jO hcov (fun i hi=>zA (qS (B:=43) rfl hi))).symm,by omega,pnx hcov rfl⟩,?_⟩)
    ·intro p hp
     have:=hLB p hp;exact⟨zA (qS (B:=43) rfl this),by omega⟩
   ·intro _
    refine Run.W2 hc ?_
    conv=>whnf
    rw[decide_eq_false (show ¬((inputs.length:Nat):Int)<(inputs.length:Int)by omega)]
    conv=>whnf
    have hsl:=sL_len inputs zo inputs.length
    obtain⟨sl,hsle⟩ :∃sl,sL inputs zo inputs.length=sl:=⟨_,rfl⟩
    rw[hsle]at hsl ⊢
    refine Run.sliceRow (hc w L0 none nofun) rfl rfl rfl rfl rfl rfl (l:=15) rfl (by decide) rfl rfl (by decide) (by decide) ((60,.cells [.opq 52] 27)::(50,.row 1 N.length (zb.map fun b=>.v (.bool b)) 4)::(51,.row 1 zo.length (zo.map fun x=>ii x) 3)::(52,.row 1 sl.length (sl.map fun x=>ii x) 3)::(3,.row 2 N.length (zs.flatMap Ste.cells) 139)::(44,.row 1 S.length (arr.map fun b=>.v (.bool b)) 4)::(45,.row 1 N.length (inq.map fun x=>ii x) 3)::(0,.cells (z9 (ii tk) inp) 108)::(1,.rwin 8 N.length (N.flatMap Prm.vals))::(2,.rwin 4 S.length (S.flatMap Syn.vals))::(4,.rwin 10 rs.length (rs.flatMap Rul.vals))::(5,.rwin 1 pl.length (qB pl))::(6,.row 4 S.length (m.flatMap Mrk.cells) 141)::(7,.row 1 rs.length (zO 25 rs.length) 27)::(41,.rwin 1 inputs.length (qB inputs))::(42,.rwin 1 rw0.length (qB rw0))::goB rs N sn tt plp) (AllP.mem (by repeat first|exact trivial|refine⟨⟨rfl,(neb rfl)⟩,?_⟩)) ?_
    refine Run.W2 hc ?_
    conv=>whnf
    refine Run.pJ (T':=[(0,.ptr 0 0),(1,.opq 41),(2,.opq 42),(7,.opq 44),(8,.opq 45),(13,.opq 50),(14,.opq 51),(15,.opq 52),(177,.ptr 0 0),(179,.opq 62),(184,.opq 61)]) (M':=((61,.row 1 15 [.opq 9,.opq 10,.opq 11,.opq 12,.opq 13,.opq 14,.opq 15,.opq 16,.opq 17,.opq 18,.opq 19,.opq 20,.opq 21,.opq 22,.opq 23] 27)::(50,.row 1 N.length (zb.map fun b=>.v (.bool b)) 4)::(51,.row 1 zo.length (zo.map fun x=>ii x) 3)::(52,.row 1 sl.length (sl.map fun x=>ii x) 3)::(3,.row 2 N.length (zs.flatMap Ste.cells) 139)::(44,.row 1 S.length (arr.map fun b=>.v (.bool b)) 4)::(45,.row 1 N.length (inq.map fun x=>ii x) 3)::(0,.cells (z9 (ii tk) inp) 108)::(1,.rwin 8 N.length (N.flatMap Prm.vals))::(2,.rwin 4 S.length (S.flatMap Syn.vals))::(4,.rwin 10 rs.length (rs.flatMap Rul.vals))::(5,.rwin 1 pl.length (qB pl))::(6,.row 4 S.length (m.flatMap Mrk.cells) 141)::(7,.row 1 rs.length (zO 25 rs.length) 27)::(41,.rwin 1 inputs.length (qB inputs))::(42,.rwin 1 rw0.length (qB rw0))::goB rs N sn tt plp)) 60 1 1 [.opq 52] 27 rfl rfl (by omega) (AllP.mem (by repeat first|exact trivial|refine⟨.inl rfl,?_⟩|refine⟨.inr ⟨rfl,rfl⟩,?_⟩)) (AllP.mem (by repeat first|exact trivial|refine⟨⟨rfl,(neb rfl)⟩,?_⟩)) ?_
    refine Run.appendO (hc w L0 none nofun) rfl rfl rfl rfl rfl rfl rfl rfl (by decide) rfl rfl rfl rfl rfl (by decide) ⟨by decide,by decide⟩ ((61,.row 1 15 [.opq 9,.opq 10,.opq 11,.opq 12,.opq 13,.opq 14,.opq 15,.opq 16,.opq 17,.opq 18,.opq 19,.opq 20,.opq 21,.opq 22,.opq 23] 27)::(50,.row 1 N.length (zb.map fun b=>.v (.bool b)) 4)::(51,.row 1 zo.length (zo.map fun x=>ii x) 3)::(52,.row 1 sl.length (sl.map fun x=>ii x) 3)::(3,.row 2 N.length (zs.flatMap Ste.cells) 139)::(44,.row 1 S.length (arr.map fun b=>.v (.bool b)) 4)::(45,.row 1 N.length (inq.map fun x=>ii x) 3)::(0,.cells (z9 (ii tk) inp) 108)::(1,.rwin 8 N.length (N.flatMap Prm.vals))::(2,.rwin 4 S.length (S.flatMap Syn.vals))::(4,.rwin 10 rs.length (rs.flatMap Rul.vals))::(5,.rwin 1 pl.length (qB pl))::(6,.row 4 S.length (m.flatMap Mrk.cells) 141)::(7,.row 1 rs.length (zO 25 rs.length) 27)::(41,.rwin 1 inputs.length (qB inputs))::(42,.rwin 1 rw0.length (qB rw0))::goB rs N sn tt plp) (AllP.mem (by repeat first|exact trivial|refine⟨⟨rfl,(neb rfl)⟩,?_⟩)) ?_
    refine Run.W2 hc ?_
    conv=>whnf
    refine Run.lJ (T:=fun i=>[(0,.ptr 0 0),(2,.opq 42),(7,.opq 44),(13,.opq 50),(14,.opq 51),(18,ii ((i:Nat):Int))]) (M:=fun i=>((63,.row 1 16 [.opq 52,.opq 9,.opq 10,.opq 11,.opq 12,.opq 13,.opq 14,.opq 15,.opq 16,.opq 17,.opq 18,.opq 19,.opq 20,.opq 21,.opq 22,.opq 23] 27)::(52,.row 1 sl.length (sl.map fun x=>ii x) 3)::(51,.row 1 zo.length (zo.map fun x=>ii x) 3)::(50,.row 1 N.length (zb.map fun b=>.v (.bool b)) 4)::(44,.row 1 S.length (arr.map fun b=>.v (.bool b)) 4)::(3,.row 2 N.length (zs.flatMap Ste.cells) 139)::(6,.row 4 S.length ((rpY S rs pl arr zb rw0 m i).flatMap Mrk.cells) 141)::(0,.cells (kF (ii tk) inp 63) 108)::(1,.rwin 8 N.length (N.flatMap Prm.vals))::(2,.rwin 4 S.length (S.flatMap Syn.vals))::(4,.rwin 10 rs.length (rs.flatMap Rul.vals))::(5,.rwin 1 pl.length (qB pl))::(7,.row 1 rs.length (zO 25 rs.length) 27)::(42,.rwin 1 rw0.length (qB rw0))::goB rs N sn tt plp)) 70 (fun _=>True) S.length ⟨⟨rfl,ltb rfl⟩,⟨rfl,ltb rfl⟩,⟨rfl,ltb rfl⟩,⟨rfl,ltb rfl⟩,⟨rfl,ltb rfl⟩,⟨rfl,trivial⟩,trivial⟩ (by repeat first|exact trivial|refine⟨⟨rfl,by omega,qE _ rfl⟩,?_⟩|refine⟨⟨rfl,by omega,Os.h _⟩,?_⟩|refine⟨kw rfl rfl,?_⟩|refine⟨⟨rfl,by omega,qQ (by omega)⟩,?_⟩|refine⟨⟨rfl,by omega,pnx hcov rfl⟩,?_⟩) (lbx hLB rfl) trivial ?_ ?_
    ·intro u hi _ ih
     have hup:u<pl.length:=by omega
     have hpd:pl.getD u (-1)=pl[u]:=by simp[List.getD_eq_getElem?_getD,hup]
     have hsd:S.getD u qY=S[u]:=by simp[List.getD_eq_getElem?_getD,hi]
     have hua:u<arr.length:=by omega
     have had:arr.getD u false=arr[u]:=by simp[List.getD_eq_getElem?_getD,hua]
     have e:=rpY_succ S rs pl arr zb rw0 m u
     have hml:=wS S rs pl arr zb rw0 m u
     have hpu:=hp0 u hup
     have hy0:=ht0 u hi
     have hy1:=ht1 u hi
     unfold rpStep at e
     rw[hpd,hsd,had]at e
     obtain⟨ms,hms⟩ :∃ms,rpY S rs pl arr zb rw0 m u=ms:=⟨_,rfl⟩
     rw[hms]at e hml ⊢
     obtain⟨y,hy⟩ :∃y,S[u]=y:=⟨_,rfl⟩
     rw[hy]at hy0 hy1 e
     obtain⟨q,hq⟩ :∃q,pl[u]=q:=⟨_,rfl⟩
     rw[hq]at hpu e
     have hga:(arr.map fun b=>SV.v (.bool b))[u]? = some (.v (.bool arr[u])):=by
      rw[List.getElem?_map,List.getElem?_eq_getElem hua];rfl
     obtain⟨ar,har⟩ :∃ar,arr[u]=ar:=⟨_,rfl⟩
     rw[har]at hga e
     refine Run.W2 hc ?_
     conv=>whnf
     rw[decide_eq_true (show((u:Nat):Int)<(S.length:Int)by omega)]
     conv=>whnf
     refine⟨by omega,?_⟩
     conv=>whnf
     rw[zR u rfl rfl rfl rfl (by rw[qD,Nat.mul_one]) (zZ hup),hq]
     conv=>whnf
     cases hq0:decide (q<0)
     case true=>
      conv=>whnf
      rw[if_pos (of_decide_eq_true hq0)]at e
      rw[e]at ih
      exact Run.tH (ih trivial) ⟨⟨rfl,ltb rfl⟩,⟨rfl,ltb rfl⟩,⟨rfl,ltb rfl⟩,⟨rfl,ltb rfl⟩,⟨rfl,ltb rfl⟩,⟨wsx (by omega),trivial⟩,trivial⟩ (by repeat first|exact trivial|refine⟨⟨rfl,by omega,qE _ rfl⟩,?_⟩|refine⟨⟨rfl,by omega,Os.h _⟩,?_⟩|refine⟨kw rfl rfl,?_⟩|refine⟨⟨rfl,by omega,qQ (by omega)⟩,?_⟩|refine⟨⟨rfl,by omega,pnx hcov rfl⟩,?_⟩) (lbx hLB rfl)
     rw[if_neg (of_decide_eq_false hq0)]at e
     obtain⟨k,rfl⟩:=Int.eq_ofNat_of_zero_le (show 0≤q by have:=of_decide_eq_false hq0;omega)
     have hkR:k<rs.length:=by omega
     obtain⟨p,hp'⟩:=Int.eq_ofNat_of_zero_le hy0
     have hpN:p<N.length:=by omega
     have hum:u<ms.length:=by omega
     have hrd:rs.getD k q8=rs[k]:=by simp[List.getD_eq_getElem?_getD,hkR]
     have hwk:k<rw0.length:=by omega
     have hwd:rw0.getD k 0=rw0[k]:=by simp[List.getD_eq_getElem?_getD,hwk]
     have hmd:ms.getD u qM=ms[u]:=by simp[List.getD_eq_getElem?_getD,hum]
     have hzd:zb.getD p false=zb[p]'(by omega):=by simp[List.getD_eq_getElem?_getD,show p<zb.length by omega]
     rw[hp',show((k:Nat):Int).toNat=k from Int.toNat_natCast k,show((p:Nat):Int).toNat=p from Int.toNat_natCast p,hrd,hwd,hmd,hzd]at e
     have hshk:=hsh k hkR
     obtain⟨r,hr⟩ :∃r,rs[k]=r:=⟨_,rfl⟩
     obtain⟨mk,hmk⟩ :∃mk,ms[u]=mk:=⟨_,rfl⟩
     have hgz:(zb.map fun b=>SV.v (.bool b))[p]? = some (.v (.bool (zb[p]'(by omega)))):=by
      rw[List.getElem?_map,List.getElem?_eq_getElem (by omega)];rfl
     obtain⟨sp,hsp⟩ :∃sp,zb[p]'(by omega)=sp:=⟨_,rfl⟩
     rw[hr]at hshk e
     rw[hmk,hsp]at e
     rw[hsp]at hgz
     unfold rpMark at e
     have hCh :∀M,FC M [.agg (yP r mk).cells,.agg (r.vals.map .v),.v (.bool sp),.v (.bool ar),ii rw0[k]]=some ([],(rchg r (yP r mk) sp ar rw0[k]).sv):=fun M=>by rw[←hFC];exact FCh_at sp ar rw0[k] M hshk
     obtain⟨m2,hm2⟩ :∃m2,rchg r (yP r mk) sp ar rw0[k]=m2:=⟨_,rfl⟩
     rw[hm2]at hCh e
     simp only at e
     rw[e]at ih
     conv=>whnf
     refine Run.draw (hc w L0 none nofun) 24 ?_
     rw[show qC 0 24=qC 0 10++(qC 10 1++(qC 11 1++(qC 12 1++(qC 13 6++(qC 19 1++qC 20 4)))))from rfl]
     simp only[qP]
     conv=>whnf
     refine⟨by omega,?_⟩
     conv=>whnf
     rw[zR u rfl rfl rfl rfl (by rw[qD,Nat.mul_one]) (zZ hup),hq]
     conv=>whnf
     refine⟨by omega,?_⟩
     conv=>whnf
     rw[jF (f:=Rul.vals) (l:=rs) k rfl rfl rfl rfl rfl Rul.vlen (by rw[qD]) hkR,hr]
     conv=>whnf
     refine⟨by omega,?_⟩
     conv=>whnf
     rw[uG (f:=Mrk.cells) (l:=ms) u rfl rfl rfl rfl rfl Mrk.clen (by rw[qD]) hum,hmk]
     conv=>whnf
     refine⟨by kernel_rfl,?_⟩
     refine Run.W2 hc ?_
     conv=>whnf
     refine Run.draw (hc w L0 none nofun) 24 ?_
     rw[show qC 0 24=qC 0 6++(qC 6 6++(qC 12 6++qC 18 6))from rfl]
     simp only[qP]
     conv=>whnf
     refine⟨by decide,?_⟩
     conv=>whnf
     refine⟨by decide,?_⟩
     conv=>whnf
     rw[kV (F:=FT) rfl rfl rfl rfl (hTw _ _)]
     conv=>whnf
     refine⟨by kernel_rfl,?_⟩
     refine Run.W2 hc ?_
     conv=>whnf
     refine⟨by omega,?_⟩
     conv=>whnf
     rw[qG (f:=Syn.vals) (l:=S) u 1 rfl rfl rfl rfl Syn.vlen (by rw[qD]) hi (by decide) rfl,hy,hp']
     conv=>whnf
     refine⟨by omega,?_⟩
     conv=>whnf
     rw[zB p rfl rfl rfl rfl (by rw[qD,Nat.mul_one]) hgz]
     conv=>whnf
     refine Run.r7 (T':=[(0,.ptr 0 0),(2,.opq 42),(7,.opq 44),(13,.opq 50),(14,.opq 51),(18,ii ((u:Nat):Int)),(19,.ptr 90 0),(20,.ptr 91 0),(21,.v (.bool sp))]) (M':=((90,.cells (r.vals.map .v) 40)::(91,.cells (yP r mk).cells 141)::(63,.row 1 16 [.opq 52,.opq 9,.opq 10,.opq 11,.opq 12,.opq 13,.opq 14,.opq 15,.opq 16,.opq 17,.opq 18,.opq 19,.opq 20,.opq 21,.opq 22,.opq 23] 27)::(52,.row 1 sl.length (sl.map fun x=>ii x) 3)::(51,.row 1 zo.length (zo.map fun x=>ii x) 3)::(50,.row 1 N.length (zb.map fun b=>.v (.bool b)) 4)::(44,.row 1 S.length (arr.map fun b=>.v (.bool b)) 4)::(3,.row 2 N.length (zs.flatMap Ste.cells) 139)::(6,.row 4 S.length (ms.flatMap Mrk.cells) 141)::(0,.cells (kF (ii tk) inp 63) 108)::(1,.rwin 8 N.length (N.flatMap Prm.vals))::(2,.rwin 4 S.length (S.flatMap Syn.vals))::(4,.rwin 10 rs.length (rs.flatMap Rul.vals))::(5,.rwin 1 pl.length (qB pl))::(7,.row 1 rs.length (zO 25 rs.length) 27)::(42,.rwin 1 rw0.length (qB rw0))::goB rs N sn tt plp)) 100 (by repeat first|exact trivial|refine⟨⟨rfl,ltb rfl⟩,?_⟩|refine⟨⟨rfl,trivial⟩,?_⟩) (by repeat first|exact trivial|refine⟨⟨rfl,by omega,Os.h _⟩,?_⟩|refine⟨⟨rfl,by omega,⟨trivial,trivial,trivial,trivial,trivial⟩⟩,?_⟩|refine⟨⟨rfl,by omega,qE _ rfl⟩,?_⟩|refine⟨kw rfl rfl,?_⟩|refine⟨⟨rfl,by omega,qQ (by omega)⟩,?_⟩|refine⟨⟨rfl,by omega,pnx hcov rfl⟩,?_⟩) (lbx hLB rfl) ?_
     refine Run.draw (hc w L0 none nofun) 19 ?_
     rw[show qC 0 19=qC 0 6++(qC 6 1++(qC 7 7++(qC 14 1++(qC 15 1++(qC 16 1++(qC 17 1++qC 18 1))))))from rfl]
     simp only[qP]
     conv=>whnf
     refine⟨by omega,?_⟩
     conv=>whnf
     rw[zB (c:=.v (.bool ar)) u rfl rfl rfl rfl (by rw[qD,Nat.mul_one]) hga]
     conv=>whnf
     refine⟨by omega,?_⟩
     conv=>whnf
     rw[zR u rfl rfl rfl rfl (by rw[qD,Nat.mul_one]) (zZ hup),hq]
     conv=>whnf
     refine⟨by omega,?_⟩
     conv=>whnf
     rw[zR k rfl rfl rfl rfl (by rw[qD,Nat.mul_one]) (zZ hwk)]
     conv=>whnf
     rw[kV (F:=FC) rfl rfl rfl rfl (hCh _)]
     conv=>whnf
     refine⟨by kernel_rfl,?_⟩
     refine Run.W2 hc ?_
     conv=>whnf
     refine⟨by omega,?_⟩
     conv=>whnf
     rw[zB (c:=.v (.bool ar)) u rfl rfl rfl rfl (by rw[qD,Nat.mul_one]) hga]
     conv=>whnf
     cases ar
     ·conv=>whnf
      cases sp
      ·conv=>whnf
       refine Run.draw (hc w L0 none nofun) 8 ?_
       conv=>whnf
       refine⟨by omega,?_⟩
       conv=>whnf
       rw[vG (e:=4) (f:=Mrk.cells) (l:=ms) u ⟨m2.w,m2.x,m2.y,m2.e⟩ rfl rfl rfl rfl rfl Mrk.clen (by rw[qD]) hum (by decide) rfl rfl]
       conv=>whnf
       refine⟨by kernel_rfl,?_⟩
       refine Run.W2 hc ?_
       conv=>whnf
       exact Run.tH (ih trivial) ⟨⟨rfl,ltb rfl⟩,⟨rfl,ltb rfl⟩,⟨rfl,ltb rfl⟩,⟨rfl,ltb rfl⟩,⟨rfl,ltb rfl⟩,⟨wsx (by omega),trivial⟩,trivial⟩ (by repeat first|exact trivial|refine⟨⟨rfl,by omega,qE _ rfl⟩,?_⟩|refine⟨⟨rfl,by omega,Os.h _⟩,?_⟩|refine⟨kw rfl rfl,?_⟩|refine⟨⟨rfl,by omega,qQ (by omega)⟩,?_⟩|refine⟨⟨rfl,by omega,pnx hcov rfl⟩,?_⟩) (lbx hLB rfl)
      ·conv=>whnf
       refine Run.draw (hc w L0 none nofun) 8 ?_
       conv=>whnf
       refine⟨by omega,?_⟩
       conv=>whnf
       rw[vG (e:=4) (f:=Mrk.cells) (l:=ms) u ⟨m2.w,m2.x,min 65535 (W (m2.y+r.gain)),m2.e⟩ rfl rfl rfl rfl rfl Mrk.clen (by rw[qD]) hum (by decide) rfl rfl]
       conv=>whnf
       refine⟨by kernel_rfl,?_⟩
       refine Run.W2 hc ?_
       conv=>whnf
       exact Run.tH (ih trivial) ⟨⟨rfl,ltb rfl⟩,⟨rfl,ltb rfl⟩,⟨rfl,ltb rfl⟩,⟨rfl,ltb rfl⟩,⟨rfl,ltb rfl⟩,⟨wsx (by omega),trivial⟩,trivial⟩ (by repeat first|exact trivial|refine⟨⟨rfl,by omega,qE _ rfl⟩,?_⟩|refine⟨⟨rfl,by omega,Os.h _⟩,?_⟩|refine⟨kw rfl rfl,?_⟩|refine⟨⟨rfl,by omega,qQ (by omega)⟩,?_⟩|refine⟨⟨rfl,by omega,pnx hcov rfl⟩,?_⟩) (lbx hLB rfl)
     ·conv=>whnf
      cases sp
      ·conv=>whnf
       refine Run.draw (hc w L0 none nofun) 8 ?_
       conv=>whnf
       refine⟨by omega,?_⟩
       conv=>whnf
       rw[vG (e:=4) (f:=Mrk.cells) (l:=ms) u ⟨m2.w,min 65535 (W (m2.x+r.gain)),m2.y,m2.e⟩ rfl rfl rfl rfl rfl Mrk.clen (by rw[qD]) hum (by decide) rfl rfl]
       conv=>whnf
       refine⟨by kernel_rfl,?_⟩
       refine Run.W2 hc ?_
       conv=>whnf
       exact Run.tH (ih trivial) ⟨⟨rfl,ltb rfl⟩,⟨rfl,ltb rfl⟩,⟨rfl,ltb rfl⟩,⟨rfl,ltb rfl⟩,⟨rfl,ltb rfl⟩,⟨wsx (by omega),trivial⟩,trivial⟩ (by repeat first|exact trivial|refine⟨⟨rfl,by omega,qE _ rfl⟩,?_⟩|refine⟨⟨rfl,by omega,Os.h _⟩,?_⟩|refine⟨kw rfl rfl,?_⟩|refine⟨⟨rfl,by omega,qQ (by omega)⟩,?_⟩|refine⟨⟨rfl,by omega,pnx hcov rfl⟩,?_⟩) (lbx hLB rfl)
      ·conv=>whnf
       refine Run.draw (hc w L0 none nofun) 8 ?_
       conv=>whnf
       refine⟨by omega,?_⟩
       conv=>whnf
       rw[vG (e:=4) (f:=Mrk.cells) (l:=ms) u ⟨m2.w,min 65535 (W (m2.x+r.gain)),min 65535 (W (m2.y+r.gain)),m2.e⟩ rfl rfl rfl rfl rfl Mrk.clen (by rw[qD]) hum (by decide) rfl rfl]
       conv=>whnf
       refine⟨by kernel_rfl,?_⟩
       refine Run.W2 hc ?_
       conv=>whnf
       exact Run.tH (ih trivial) ⟨⟨rfl,ltb rfl⟩,⟨rfl,ltb rfl⟩,⟨rfl,ltb rfl⟩,⟨rfl,ltb rfl⟩,⟨rfl,ltb rfl⟩,⟨wsx (by omega),trivial⟩,trivial⟩ (by repeat first|exact trivial|refine⟨⟨rfl,by omega,qE _ rfl⟩,?_⟩|refine⟨⟨rfl,by omega,Os.h _⟩,?_⟩|refine⟨kw rfl rfl,?_⟩|refine⟨⟨rfl,by omega,qQ (by omega)⟩,?_⟩|refine⟨⟨rfl,by omega,pnx hcov rfl⟩,?_⟩) (lbx hLB rfl)
    ·intro _
     refine Run.W2 hc ?_
     conv=>whnf
     rw[hP',decide_eq_false (show ¬((S.length:Nat):Int)<(S.length:Int)by omega)]
     conv=>whnf
     have hsm:=rsums_spec tk inp N S rs pl mP hN hS hR hp hmPl hp0 ht0 ht1
     rw[hmPl]at hsm
     refine Run.pO (vs:=[.ptr 0 0]) (caps:=[]) (caps2:=[]) hsm (ent _ _ Try.func72 (by kernel_rfl) rfl) rfl rfl rfl rfl rfl rfl [.ptr 0 0] rfl (fun q=>if q=8 then 63 else q) rfl (fun q hq=>by have inv :∀q,q<41→(fun q=>if q=8 then 63 else q) q<70:=(by decide);exact inv q hq) (fun q hq j hj hne=>by have inj :∀i,i<41 → ∀j,j<41→i≠j→(fun q=>if q=8 then 63 else q) i≠(fun q=>if q=8 then 63 else q) j:=(by decide);exact inj q hq j hj hne) (by decide) (by repeat first|exact trivial|refine⟨⟨by omega,trivial,⟨_,rfl,Conv.refl _⟩,.inl rfl,fun _=>by simp⟩,?_⟩|refine⟨⟨by omega,trivial,⟨_,rfl,Conv.row (by decide) (kD _)⟩,.inl rfl,fun _=>by simp⟩,?_⟩|refine⟨⟨by omega,by simp[z9,SObj.sc,SV.scs,SV.sc],⟨_,rfl,Conv.refl _⟩,.inr (by simp),fun h=>by cases h⟩,?_⟩) (fun q hq=>by simp at hq;subst hq;exact⟨by omega,_,rfl⟩) (.opq 70) ((70,.row 1 rs.length (zO 71 rs.length) 27)::(71,.row 1 (cN rs.length N.length 0) ((rsL S pl mP rs.length N.length 0).map fun x=>ii x) 3)::(72,.row 1 (cN rs.length N.length 1) ((rsL S pl mP rs.length N.length 1).map fun x=>ii x) 3)::(73,.row 1 (cN rs.length N.length 2) ((rsL S pl mP rs.length N.length 2).map fun x=>ii x) 3)::(74,.row 1 (cN rs.length N.length 3) ((rsL S pl mP rs.length N.length 3).map fun x=>ii x) 3)::(75,.row 1 (cN rs.length N.length 4) ((rsL S pl mP rs.length N.length 4).map fun x=>ii x) 3)::(76,.row 1 (cN rs.length N.length 5) ((rsL S pl mP rs.length N.length 5).map fun x=>ii x) 3)::(77,.row 1 (cN rs.length N.length 6) ((rsL S pl mP rs.length N.length 6).map fun x=>ii x) 3)::(78,.row 1 (cN rs.length N.length 7) ((rsL S pl mP rs.length N.length 7).map fun x=>ii x) 3)::(79,.row 1 (cN rs.length N.length 8) ((rsL S pl mP rs.length N.length 8).map fun x=>ii x) 3)::(80,.row 1 (cN rs.length N.length 9) ((rsL S pl mP rs.length N.length 9).map fun x=>ii x) 3)::(81,.row 1 (cN rs.length N.length 10) ((rsL S pl mP rs.length N.length 10).map fun x=>ii x) 3)::(82,.row 1 (cN rs.length N.length 11) ((rsL S pl mP rs.length N.length 11).map fun x=>ii x) 3)::(83,.row 1 (cN rs.length N.length 12) ((rsL S pl mP rs.length N.length 12).map fun x=>ii x) 3)::(84,.row 1 (cN rs.length N.length 13) ((rsL S pl mP rs.length N.length 13).map fun x=>ii x) 3)::(85,.row 1 (cN rs.length N.length 14) ((rsL S pl mP rs.length N.length 14).map fun x=>ii x) 3)::(86,.row 1 (cN rs.length N.length 15) ((rsL S pl mP rs.length N.length 15).map fun x=>ii x) 3)::(0,.cells (kF (ii tk) inp 63) 108)::(63,.row 1 16 [.opq 52,.opq 9,.opq 10,.opq 11,.opq 12,.opq 13,.opq 14,.opq 15,.opq 16,.opq 17,.opq 18,.opq 19,.opq 20,.opq 21,.opq 22,.opq 23] 27)::(52,.row 1 sl.length (sl.map fun x=>ii x) 3)::(51,.row 1 zo.length (zo.map fun x=>ii x) 3)::(3,.row 2 N.length (zs.flatMap Ste.cells) 139)::(6,.row 4 S.length (mP.flatMap Mrk.cells) 141)::(1,.rwin 8 N.length (N.flatMap Prm.vals))::(2,.rwin 4 S.length (S.flatMap Syn.vals))::(4,.rwin 10 rs.length (rs.flatMap Rul.vals))::(5,.rwin 1 pl.length (qB pl))::(7,.row 1 rs.length (zO 25 rs.length) 27)::(42,.rwin 1 rw0.length (qB rw0))::goB rs N sn tt plp) 87 rfl rfl
      ⟨.inr ⟨41,_,rfl,rfl,(yV (b:=42) (b':=71) (fun j hj=>by have inv :∀j,j<16→shR (fun q=>if q=8 then 63 else q) 41 70 (42+j)=71+j:=(by decide);exact inv j (by omega))).symm,rfl⟩,.inr ⟨42,_,rfl,rfl,(ofx (o:=.row _ _ (List.map _ _) _) (qK _ _)).symm,rfl⟩,.inr ⟨43,_,rfl,rfl,(ofx (o:=.row _ _ (List.map _ _) _) (qK _ _)).symm,rfl⟩,.inr ⟨44,_,rfl,rfl,(ofx (o:=.row _ _ (List.map _ _) _) (qK _ _)).symm,rfl⟩,.inr ⟨45,_,rfl,rfl,(ofx (o:=.row _ _ (List.map _ _) _) (qK _ _)).symm,rfl⟩,.inr ⟨46,_,rfl,rfl,(ofx (o:=.row _ _ (List.map _ _) _) (qK _ _)).symm,rfl⟩,.inr ⟨47,_,rfl,rfl,(ofx (o:=.row _ _ (List.map _ _) _) (qK _ _)).symm,rfl⟩,.inr ⟨48,_,rfl,rfl,(ofx (o:=.row _ _ (List.map _ _) _) (qK _ _)).symm,rfl⟩,.inr ⟨49,_,rfl,rfl,(ofx (o:=.row _ _ (List.map _ _) _) (qK _ _)).symm,rfl⟩,.inr ⟨50,_,rfl,rfl,(ofx (o:=.row _ _ (List.map _ _) _) (qK _ _)).symm,rfl⟩,.inr ⟨51,_,rfl,rfl,(ofx (o:=.row _ _ (List.map _ _) _) (qK _ _)).symm,rfl⟩,.inr ⟨52,_,rfl,rfl,(ofx (o:=.row _ _ (List.map _ _) _) (qK _ _)).symm,rfl⟩,.inr ⟨53,_,rfl,rfl,(ofx (o:=.row _ _ (List.map _ _) _) (qK _ _)).symm,rfl⟩,.inr ⟨54,_,rfl,rfl,(ofx (o:=.row _ _ (List.map _ _) _) (qK _ _)).symm,rfl⟩,.inr ⟨55,_,rfl,rfl,(ofx (o:=.row _ _ (List.map _ _) _) (qK _ _)).symm,rfl⟩,.inr ⟨56,_,rfl,rfl,(ofx (o:=.row _ _ (List.map _ _) _) (qK _ _)).symm,rfl⟩,.inr ⟨57,_,rfl,rfl,(ofx (o:=.row _ _ (List.map _ _) _) (qK _ _)).symm,rfl⟩,.inr ⟨0,_,rfl,rfl,rfl,rfl⟩,.inl ⟨rfl,fun q hq=>by simp at hq;subst hq;exact(show 0≠63 by decide)⟩,.inl ⟨rfl,fun q hq=>by simp at hq;subst hq;exact(show 0≠52 by decide)⟩,.inl ⟨rfl,fun q hq=>by simp at hq;subst hq;exact(show 0≠51 by decide)⟩,.inl ⟨rfl,fun q hq=>by simp at hq;subst hq;exact(show 0≠3 by decide)⟩,.inl ⟨rfl,fun q hq=>by simp at hq;subst hq;exact(show 0≠6 by decide)⟩,.inl ⟨rfl,fun q hq=>by simp at hq;subst hq;exact(show 0≠1 by decide)⟩,.inl ⟨rfl,fun q hq=>by simp at hq;subst hq;exact(show 0≠2 by decide)⟩,.inl ⟨rfl,fun q hq=>by simp at hq;subst hq;exact(show 0≠4 by decide)⟩,.inl ⟨rfl,fun q hq=>by simp at hq;subst hq;exact(show 0≠5 by decide)⟩,.inl ⟨rfl,fun q hq=>by simp at hq;subst hq;exact(show 0≠7 by decide)⟩,.inl ⟨rfl,fun q hq=>by simp at hq;subst hq;exact(show 0≠42 by decide)⟩,.inl ⟨rfl,fun q hq=>by simp at hq;subst hq;exact(show 0≠9 by decide)⟩,.inl ⟨rfl,fun q hq=>by simp at hq;subst hq;exact(show 0≠10 by decide)⟩,.inl ⟨rfl,fun q hq=>by simp at hq;subst hq;exact(show 0≠11 by decide)⟩,.inl ⟨rfl,fun q hq=>by simp at hq;subst hq;exact(show 0≠12 by decide)⟩,.inl ⟨rfl,fun q hq=>by simp at hq;subst hq;exact(show 0≠13 by decide)⟩,.inl ⟨rfl,fun q hq=>by simp at hq;subst hq;exact(show 0≠14 by decide)⟩,.inl ⟨rfl,fun q hq=>by simp at hq;subst hq;exact(show 0≠15 by decide)⟩,.inl ⟨rfl,fun q hq=>by simp at hq;subst hq;exact(show 0≠16 by decide)⟩,.inl ⟨rfl,fun q hq=>by simp at hq;subst hq;exact(show 0≠17 by decide)⟩,.inl ⟨rfl,fun q hq=>by simp at hq;subst hq;exact(show 0≠18 by decide)⟩,.inl ⟨rfl,fun q hq=>by simp at hq;subst hq;exact(show 0≠19 by decide)⟩,.inl ⟨rfl,fun q hq=>by simp at hq;subst hq;exact(show 0≠20 by decide)⟩,.inl ⟨rfl,fun q hq=>by simp at hq;subst hq;exact(show 0≠21 by decide)⟩,.inl ⟨rfl,fun q hq=>by simp at hq;subst hq;exact(show 0≠22 by decide)⟩,.inl ⟨rfl,fun q hq=>by simp at hq;subst hq;exact(show 0≠23 by decide)⟩,.inl ⟨rfl,fun q hq=>by simp at hq;subst hq;exact(show 0≠24 by decide)⟩,.inl ⟨rfl,fun q hq=>by simp at hq;subst hq;exact(show 0≠25 by decide)⟩,.inl ⟨rfl,fun q hq=>by simp at hq;subst hq;exact(show 0≠26 by decide)⟩,.inl ⟨rfl,fun q hq=>by simp at hq;subst hq;exact(show 0≠27 by decide)⟩,.inl ⟨rfl,fun q hq=>by simp at hq;subst hq;exact(show 0≠28 by decide)⟩,.inl ⟨rfl,fun q hq=>by simp at hq;subst hq;exact(show 0≠29 by decide)⟩,.inl ⟨rfl,fun q hq=>by simp at hq;subst hq;exact(show 0≠30 by decide)⟩,.inl ⟨rfl,fun q hq=>by simp at hq;subst hq;exact(show 0≠31 by decide)⟩,.inl ⟨rfl,fun q hq=>by simp at hq;subst hq;exact(show 0≠32 by decide)⟩,.inl ⟨rfl,fun q hq=>by simp at hq;subst hq;exact(show 0≠33 by decide)⟩,.inl ⟨rfl,fun q hq=>by simp at hq;subst hq;exact(show 0≠34 by decide)⟩,.inl ⟨rfl,fun q hq=>by simp at hq;subst hq;exact(show 0≠35 by decide)⟩,.inl ⟨rfl,fun q hq=>by simp at hq;subst hq;exact(show 0≠36 by decide)⟩,.inl ⟨rfl,fun q hq=>by simp at hq;subst hq;exact(show 0≠37 by decide)⟩,.inl ⟨rfl,fun q hq=>by simp at hq;subst hq;exact(show 0≠38 by decide)⟩,.inl ⟨rfl,fun q hq=>by simp at hq;subst hq;exact(show 0≠39 by decide)⟩,.inl ⟨rfl,fun q hq=>by simp at hq;subst hq;exact(show 0≠40 by decide)⟩,.inl ⟨rfl,fun q hq=>by simp at hq;subst hq;exact(show 0≠43 by decide)⟩,trivial⟩ ?_
     refine Run.W2 hc ?_
     conv=>whnf
     have hFl:=u1 S pl mP rs.length N.length pl.length
     obtain⟨Fs,hFs⟩ :∃Fs,rsL S pl mP rs.length N.length=Fs:=⟨_,rfl⟩
     have hFl2 :∀k,(Fs k).length=cN rs.length N.length k:=fun k=>by rw[←hFs];exact hFl k
     rw[hFs]at hK hRR ⊢
     refine Run.lJ (T:=fun i=>[(0,.ptr 0 0),(14,.opq 51),(22,.opq 70),(23,ii ((i:Nat):Int))]) (M:=fun i=>((70,.row 1 rs.length (zO 71 rs.length) 27)::(71,.row 1 (cN rs.length N.length 0) ((Fs 0).map fun x=>ii x) 3)::(72,.row 1 (cN rs.length N.length 1) ((Fs 1).map fun x=>ii x) 3)::(73,.row 1 (cN rs.length N.length 2) ((Fs 2).map fun x=>ii x) 3)::(74,.row 1 (cN rs.length N.length 3) ((Fs 3).map fun x=>ii x) 3)::(75,.row 1 (cN rs.length N.length 4) ((Fs 4).map fun x=>ii x) 3)::(76,.row 1 (cN rs.length N.length 5) ((Fs 5).map fun x=>ii x) 3)::(77,.row 1 (cN rs.length N.length 6) ((Fs 6).map fun x=>ii x) 3)::(78,.row 1 (cN rs.length N.length 7) ((Fs 7).map fun x=>ii x) 3)::(79,.row 1 (cN rs.length N.length 8) ((Fs 8).map fun x=>ii x) 3)::(80,.row 1 (cN rs.length N.length 9) ((Fs 9).map fun x=>ii x) 3)::(81,.row 1 (cN rs.length N.length 10) ((Fs 10).map fun x=>ii x) 3)::(82,.row 1 (cN rs.length N.length 11) ((Fs 11).map fun x=>ii x) 3)::(83,.row 1 (cN rs.length N.length 12) ((Fs 12).map fun x=>ii x) 3)::(84,.row 1 (cN rs.length N.length 13) ((Fs 13).map fun x=>ii x) 3)::(85,.row 1 (cN rs.length N.length 14) ((Fs 14).map fun x=>ii x) 3)::(86,.row 1 (cN rs.length N.length 15) ((Fs 15).map fun x=>ii x) 3)::(6,.row 4 S.length ((rgY S rs pl tt Fs N.length Kf mP i).flatMap Mrk.cells) 141)::(0,.cells (kF (ii tk) inp 63) 108)::(63,.row 1 16 [.opq 52,.opq 9,.opq 10,.opq 11,.opq 12,.opq 13,.opq 14,.opq 15,.opq 16,.opq 17,.opq 18,.opq 19,.opq 20,.opq 21,.opq 22,.opq 23] 27)::(52,.row 1 sl.length (sl.map fun x=>ii x) 3)::(51,.row 1 zo.length (zo.map fun x=>ii x) 3)::(3,.row 2 N.length (zs.flatMap Ste.cells) 139)::(1,.rwin 8 N.length (N.flatMap Prm.vals))::(2,.rwin 4 S.length (S.flatMap Syn.vals))::(4,.rwin 10 rs.length (rs.flatMap Rul.vals))::(5,.rwin 1 pl.length (qB pl))::(7,.row 1 rs.length (zO 25 rs.length) 27)::goB rs N sn tt plp)) 100 (fun _=>True) rs.length ⟨⟨rfl,ltb rfl⟩,⟨rfl,ltb rfl⟩,⟨rfl,ltb rfl⟩,⟨rfl,trivial⟩,trivial⟩ (by repeat first|exact trivial|refine⟨⟨rfl,by omega,qQ (by omega)⟩,?_⟩|refine⟨⟨rfl,by omega,Os.h _⟩,?_⟩|refine⟨⟨rfl,by omega,qE _ rfl⟩,?_⟩|refine⟨kw rfl rfl,?_⟩|refine⟨⟨rfl,by omega,pnx hcov rfl⟩,?_⟩) (lbx hLB rfl) trivial ?_ ?_
     ·intro r hr _ ih
      have hrd:rs.getD r q8=rs[r]:=by simp[List.getD_eq_getElem?_getD,hr]
      have hKr:=hK r hr
      have e:rgY S rs pl tt Fs N.length Kf mP (r+1)=if (rs.getD r q8).sum=true then rgP S rs pl tt Fs Kf r (rgY S rs pl tt Fs N.length Kf mP r) N.length else rgY S rs pl tt Fs N.length Kf mP r:=rfl
      have hyl:=rgY_len S rs pl tt Fs N.length Kf mP r
      rw[e]at ih
      generalize rgY S rs pl tt Fs N.length Kf mP r=my at hKr ih hyl ⊢
      obtain⟨sm,hsmm⟩ :∃sm,rs[r].sum=sm:=⟨_,rfl⟩
      rw[hrd,hsmm]at ih
      rw[hrd,hsmm]at hKr
      have hls :∀p:Nat,p<N.length→r<rs.length:=fun _ _=>hr
      refine Run.W2 hc ?_
      conv=>whnf
      rw[decide_eq_true (show((r:Nat):Int)<(rs.length:Int)by omega)]
      conv=>whnf
      cases sm
      case false=>
       rw[if_neg (by decide)]at ih
       refine Run.r7 (T':=[(0,.ptr 0 0),(14,.opq 51),(22,.opq 70),(23,ii ((r:Nat):Int)),(24,ii (((0:Nat):Nat):Int))]) (M':=((70,.row 1 rs.length (zO 71 rs.length) 27)::(71,.row 1 (cN rs.length N.length 0) ((Fs 0).map fun x=>ii x) 3)::(72,.row 1 (cN rs.length N.length 1) ((Fs 1).map fun x=>ii x) 3)::(73,.row 1 (cN rs.length N.length 2) ((Fs 2).map fun x=>ii x) 3)::(74,.row 1 (cN rs.length N.length 3) ((Fs 3).map fun x=>ii x) 3)::(75,.row 1 (cN rs.length N.length 4) ((Fs 4).map fun x=>ii x) 3)::(76,.row 1 (cN rs.length N.length 5) ((Fs 5).map fun x=>ii x) 3)::(77,.row 1 (cN rs.length N.length 6) ((Fs 6).map fun x=>ii x) 3)::(78,.row 1 (cN rs.length N.length 7) ((Fs 7).map fun x=>ii x) 3)::(79,.row 1 (cN rs.length N.length 8) ((Fs 8).map fun x=>ii x) 3)::(80,.row 1 (cN rs.length N.length 9) ((Fs 9).map fun x=>ii x) 3)::(81,.row 1 (cN rs.length N.length 10) ((Fs 10).map fun x=>ii x) 3)::(82,.row 1 (cN rs.length N.length 11) ((Fs 11).map fun x=>ii x) 3)::(83,.row 1 (cN rs.length N.length 12) ((Fs 12).map fun x=>ii x) 3)::(84,.row 1 (cN rs.length N.length 13) ((Fs 13).map fun x=>ii x) 3)::(85,.row 1 (cN rs.length N.length 14) ((Fs 14).map fun x=>ii x) 3)::(86,.row 1 (cN rs.length N.length 15) ((Fs 15).map fun x=>ii x) 3)::(6,.row 4 S.length (my.flatMap Mrk.cells) 141)::(0,.cells (kF (ii tk) inp 63) 108)::(63,.row 1 16 [.opq 52,.opq 9,.opq 10,.opq 11,.opq 12,.opq 13,.opq 14,.opq 15,.opq 16,.opq 17,.opq 18,.opq 19,.opq 20,.opq 21,.opq 22,.opq 23] 27)::(52,.row 1 sl.length (sl.map fun x=>ii x) 3)::(51,.row 1 zo.length (zo.map fun x=>ii x) 3)::(3,.row 2 N.length (zs.flatMap Ste.cells) 139)::(1,.rwin 8 N.length (N.flatMap Prm.vals))::(2,.rwin 4 S.length (S.flatMap Syn.vals))::(4,.rwin 10 rs.length (rs.flatMap Rul.vals))::(5,.rwin 1 pl.length (qB pl))::(7,.row 1 rs.length (zO 25 rs.length) 27)::goB rs N sn tt plp)) 100 ⟨⟨rfl,ltb rfl⟩,⟨rfl,ltb rfl⟩,⟨rfl,ltb rfl⟩,⟨rfl,trivial⟩,⟨rfl,trivial⟩,trivial⟩ (by repeat first|exact trivial|refine⟨⟨rfl,by omega,qQ (by omega)⟩,?_⟩|refine⟨⟨rfl,by omega,Os.h _⟩,?_⟩|refine⟨⟨rfl,by omega,qE _ rfl⟩,?_⟩|refine⟨kw rfl rfl,?_⟩|refine⟨⟨rfl,by omega,pnx hcov rfl⟩,?_⟩) (lbx hLB rfl) ?_
       refine Run.W2 hc ?_
       conv=>whnf
       rw[decide_eq_true (show((0:Nat):Int)<(N.length:Int)by omega)]
       conv=>whnf
       refine⟨by omega,?_⟩
       conv=>whnf
       rw[qG (f:=Rul.vals) (l:=rs) r 9 rfl rfl rfl rfl Rul.vlen (by rw[qD]) hr (by decide) rfl,hsmm]
       conv=>whnf
       exact Run.tH (ih trivial) ⟨⟨rfl,ltb rfl⟩,⟨rfl,ltb rfl⟩,⟨rfl,ltb rfl⟩,⟨wsx (by omega),trivial⟩,trivial⟩ (by repeat first|exact trivial|refine⟨⟨rfl,by omega,qQ (by omega)⟩,?_⟩|refine⟨⟨rfl,by omega,Os.h _⟩,?_⟩|refine⟨⟨rfl,by omega,qE _ rfl⟩,?_⟩|refine⟨kw rfl rfl,?_⟩|refine⟨⟨rfl,by omega,pnx hcov rfl⟩,?_⟩) (lbx hLB rfl)
      rw[if_pos rfl]at ih
      refine Run.lJ (T:=fun p=>[(0,.ptr 0 0),(14,.opq 51),(22,.opq 70),(23,ii ((r:Nat):Int)),(24,ii ((p:Nat):Int))]) (M:=fun p=>((70,.row 1 rs.length (zO 71 rs.length) 27)::(71,.row 1 (cN rs.length N.length 0) ((Fs 0).map fun x=>ii x) 3)::(72,.row 1 (cN rs.length N.length 1) ((Fs 1).map fun x=>ii x) 3)::(73,.row 1 (cN rs.length N.length 2) ((Fs 2).map fun x=>ii x) 3)::(74,.row 1 (cN rs.length N.length 3) ((Fs 3).map fun x=>ii x) 3)::(75,.row 1 (cN rs.length N.length 4) ((Fs 4).map fun x=>ii x) 3)::(76,.row 1 (cN rs.length N.length 5) ((Fs 5).map fun x=>ii x) 3)::(77,.row 1 (cN rs.length N.length 6) ((Fs 6).map fun x=>ii x) 3)::(78,.row 1 (cN rs.length N.length 7) ((Fs 7).map fun x=>ii x) 3)::(79,.row 1 (cN rs.length N.length 8) ((Fs 8).map fun x=>ii x) 3)::(80,.row 1 (cN rs.length N.length 9) ((Fs 9).map fun x=>ii x) 3)::(81,.row 1 (cN rs.length N.length 10) ((Fs 10).map fun x=>ii x) 3)::(82,.row 1 (cN rs.length N.length 11) ((Fs 11).map fun x=>ii x) 3)::(83,.row 1 (cN rs.length N.length 12) ((Fs 12).map fun x=>ii x) 3)::(84,.row 1 (cN rs.length N.length 13) ((Fs 13).map fun x=>ii x) 3)::(85,.row 1 (cN rs.length N.length 14) ((Fs 14).map fun x=>ii x) 3)::(86,.row 1 (cN rs.length N.length 15) ((Fs 15).map fun x=>ii x) 3)::(6,.row 4 S.length ((rgP S rs pl tt Fs Kf r my p).flatMap Mrk.cells) 141)::(0,.cells (kF (ii tk) inp 63) 108)::(63,.row 1 16 [.opq 52,.opq 9,.opq 10,.opq 11,.opq 12,.opq 13,.opq 14,.opq 15,.opq 16,.opq 17,.opq 18,.opq 19,.opq 20,.opq 21,.opq 22,.opq 23] 27)::(52,.row 1 sl.length (sl.map fun x=>ii x) 3)::(51,.row 1 zo.length (zo.map fun x=>ii x) 3)::(3,.row 2 N.length (zs.flatMap Ste.cells) 139)::(1,.rwin 8 N.length (N.flatMap Prm.vals))::(2,.rwin 4 S.length (S.flatMap Syn.vals))::(4,.rwin 10 rs.length (rs.flatMap Rul.vals))::(5,.rwin 1 pl.length (qB pl))::(7,.row 1 rs.length (zO 25 rs.length) 27)::goB rs N sn tt plp)) 100 (fun _=>True) N.length ⟨⟨rfl,ltb rfl⟩,⟨rfl,ltb rfl⟩,⟨rfl,ltb rfl⟩,⟨rfl,trivial⟩,⟨rfl,trivial⟩,trivial⟩ (by repeat first|exact trivial|refine⟨⟨rfl,by omega,qQ (by omega)⟩,?_⟩|refine⟨⟨rfl,by omega,Os.h _⟩,?_⟩|refine⟨⟨rfl,by omega,qE _ rfl⟩,?_⟩|refine⟨kw rfl rfl,?_⟩|refine⟨⟨rfl,by omega,pnx hcov rfl⟩,?_⟩) (lbx hLB rfl) trivial ?_ ?_
      ·intro p hpN _ ih2
       have hKp:=hKr rfl p hpN
       have e2:rgP S rs pl tt Fs Kf r my (p+1)=rrM S rs pl tt Fs r p (Kf r p) (rgP S rs pl tt Fs Kf r my p):=rfl
       have hpl:=rgP_len S rs pl tt Fs Kf r my p
       rw[e2]at ih2
       unfold rrM at ih2
       rw[hrd]at ih2
       generalize rgP S rs pl tt Fs Kf r my p=mq at hKp ih2 hpl ⊢
       obtain⟨hk1,hk2,hk3⟩:=hKp
       have hr16:r<16:=by omega
       have hgF:((Fs r).map fun x=>ii x)[p]? = some (ii ((Fs r).getD p 0)):=by
        have:p<(Fs r).length:=by rw[hFl2];unfold cN;rw[if_pos hr];exact hpN
        rw[List.getElem?_map,List.getElem?_eq_getElem this,List.getD_eq_getElem?_getD,List.getElem?_eq_getElem this];rfl
       have hcn:cN rs.length N.length r=N.length:=by unfold cN;rw[if_pos hr]
       have htk:(zO 71 rs.length)[r]? = some (.opq (71+r)):=tabX_get hr
       have hspec:=rrestore_spec tk inp N.length S rs pl mq tt r p ((Fs r).getD p 0) (Kf r p) hS hR hp (by omega) hr hpN htt (by rw[hrd];exact hk1) (by rw[hrd];exact hk2) hk3
       rw[hrd]at hspec
       obtain⟨mq2,hmq2⟩ :∃mq2,(rrY S pl (r:Int) (p:Int) rs[r].lo rs[r].hi ((tt r).getD p 0) ((Fs r).getD p 0,mq) (Kf r p)).2=mq2:=⟨_,rfl⟩
       rw[hmq2]at hspec ih2
       refine Run.W2 hc ?_
       conv=>whnf
       rw[decide_eq_true (show((p:Nat):Int)<(N.length:Int)by omega)]
       conv=>whnf
       refine⟨by omega,?_⟩
       conv=>whnf
       rw[qG (f:=Rul.vals) (l:=rs) r 9 rfl rfl rfl rfl Rul.vlen (by rw[qD]) hr (by decide) rfl,hsmm]
       conv=>whnf
       refine⟨by omega,?_⟩
       conv=>whnf
       rw[zB r rfl rfl rfl rfl (by rw[qD,Nat.mul_one]) htk]
       conv=>whnf
       apply vT (c:=⟨Try.prog,tab,[(87,FG),(89,FC),(88,FT)],56,Try.f56,[],w,L0,none⟩) (R:=RR) [(0,.ptr 0 0),(14,.opq 51),(22,.opq 70),(23,ii ((r:Nat):Int)),(24,ii ((p:Nat):Int)),(332,.ptr 0 0),(333,ii (r:Int)),(334,ii (p:Int)),(341,ii ((Fs r).getD p 0))] ((70,.row 1 rs.length (zO 71 rs.length) 27)::(71,.row 1 (cN rs.length N.length 0) ((Fs 0).map fun x=>ii x) 3)::(72,.row 1 (cN rs.length N.length 1) ((Fs 1).map fun x=>ii x) 3)::(73,.row 1 (cN rs.length N.length 2) ((Fs 2).map fun x=>ii x) 3)::(74,.row 1 (cN rs.length N.length 3) ((Fs 3).map fun x=>ii x) 3)::(75,.row 1 (cN rs.length N.length 4) ((Fs 4).map fun x=>ii x) 3)::(76,.row 1 (cN rs.length N.length 5) ((Fs 5).map fun x=>ii x) 3)::(77,.row 1 (cN rs.length N.length 6) ((Fs 6).map fun x=>ii x) 3)::(78,.row 1 (cN rs.length N.length 7) ((Fs 7).map fun x=>ii x) 3)::(79,.row 1 (cN rs.length N.length 8) ((Fs 8).map fun x=>ii x) 3)::(80,.row 1 (cN rs.length N.length 9) ((Fs 9).map fun x=>ii x) 3)::(81,.row 1 (cN rs.length N.length 10) ((Fs 10).map fun x=>ii x) 3)::(82,.row 1 (cN rs.length N.length 11) ((Fs 11).map fun x=>ii x) 3)::(83,.row 1 (cN rs.length N.length 12) ((Fs 12).map fun x=>ii x) 3)::(84,.row 1 (cN rs.length N.length 13) ((Fs 13).map fun x=>ii x) 3)::(85,.row 1 (cN rs.length N.length 14) ((Fs 14).map fun x=>ii x) 3)::(86,.row 1 (cN rs.length N.length 15) ((Fs 15).map fun x=>ii x) 3)::(6,.row 4 S.length (mq.flatMap Mrk.cells) 141)::(0,.cells (kF (ii tk) inp 63) 108)::(63,.row 1 16 [.opq 52,.opq 9,.opq 10,.opq 11,.opq 12,.opq 13,.opq 14,.opq 15,.opq 16,.opq 17,.opq 18,.opq 19,.opq 20,.opq 21,.opq 22,.opq 23] 27)::(52,.row 1 sl.length (sl.map fun x=>ii x) 3)::(51,.row 1 zo.length (zo.map fun x=>ii x) 3)::(3,.row 2 N.length (zs.flatMap Ste.cells) 139)::(1,.rwin 8 N.length (N.flatMap Prm.vals))::(2,.rwin 4 S.length (S.flatMap Syn.vals))::(4,.rwin 10 rs.length (rs.flatMap Rul.vals))::(5,.rwin 1 pl.length (qB pl))::(7,.row 1 rs.length (zO 25 rs.length) 27)::goB rs N sn tt plp) 100
       ·intro tail
        rcases xR hr16 with rfl|rfl|rfl|rfl|rfl|rfl|rfl|rfl|rfl|rfl|rfl|rfl|rfl|rfl|rfl|rfl
        all_goals
         conv=>whnf
         refine⟨by omega,?_⟩
         conv=>whnf
         rw[zB p rfl rfl rfl rfl (by rw[qD,Nat.mul_one]) hgF]
         conv=>whnf
         exact Run.tH tail (by repeat first|exact trivial|refine⟨⟨rfl,ltb rfl⟩,?_⟩|refine⟨⟨rfl,trivial⟩,?_⟩) (by repeat first|exact trivial|refine⟨⟨rfl,by omega,qQ (by omega)⟩,?_⟩|refine⟨⟨rfl,by omega,Os.h _⟩,?_⟩|refine⟨⟨rfl,by omega,qE _ rfl⟩,?_⟩|refine⟨kw rfl rfl,?_⟩|refine⟨⟨rfl,by omega,pnx hcov rfl⟩,?_⟩) (lbx hLB rfl)
       have hisn :∀k:Nat,(k≠0∧k≠6∧k≠7) → ∀q∈([0,6,7]:List Nat),(fun q=>if q=8 then 63 else q) q≠k:=by
        intro k hk q hq
        have hq2:q=0∨q=6∨q=7:=by simpa using hq
        rcases hq2 with rfl|rfl|rfl
        ·exact hk.1.symm
        ·exact hk.2.1.symm
        ·exact hk.2.2.symm
       refine Run.pO (vs:=[.ptr 0 0,ii (r:Int),ii (p:Int),ii ((Fs r).getD p 0)]) (caps:=[]) (caps2:=[]) hspec (ent _ _ Try.func90 (by kernel_rfl) rfl) rfl rfl rfl rfl rfl rfl [.ptr 0 0,ii (r:Int),ii (p:Int),ii ((Fs r).getD p 0)] rfl (fun q=>if q=8 then 63 else q) rfl (fun q hq=>by have inv :∀q,q<41→(fun q=>if q=8 then 63 else q) q<100:=(by decide);exact inv q hq) (fun q hq j hj hne=>by have inj :∀i,i<41 → ∀j,j<41→i≠j→(fun q=>if q=8 then 63 else q) i≠(fun q=>if q=8 then 63 else q) j:=(by decide);exact inj q hq j hj hne) (by decide) (by repeat first|exact trivial|refine⟨⟨by omega,trivial,⟨_,rfl,Conv.refl _⟩,.inl rfl,fun _=>by simp⟩,?_⟩|refine⟨⟨by omega,qL _ _,⟨_,rfl,by rw[ofx (o:=.row _ _ (List.flatMap Mrk.cells _) _) (qL _ _)];exact Conv.refl _⟩,.inr (by simp),fun h=>by cases h⟩,?_⟩|refine⟨⟨by omega,qQ (by omega),⟨_,rfl,by rw[(yV (r:=(fun q=>if q=8 then 63 else q)) (b:=25) (b':=25) (fun j hj=>by have inv :∀j,j<16→(fun q=>if q=8 then 63 else q) (25+j)=25+j:=(by decide);exact inv j (by omega)))];exact Conv.refl _⟩,.inr (by simp),fun h=>by cases h⟩,?_⟩|refine⟨⟨by omega,by simp[z9,SObj.sc,SV.scs,SV.sc],⟨_,rfl,Conv.refl _⟩,.inr (by simp),fun h=>by cases h⟩,?_⟩) (fun q hq=>by
         have hq2:q=0∨q=6∨q=7:=by simpa using hq
         rcases hq2 with rfl|rfl|rfl<;>exact⟨by omega,_,rfl⟩) (.tup []) ((70,.row 1 rs.length (zO 71 rs.length) 27)::(71,.row 1 (cN rs.length N.length 0) ((Fs 0).map fun x=>ii x) 3)::(72,.row 1 (cN rs.length N.length 1) ((Fs 1).map fun x=>ii x) 3)::(73,.row 1 (cN rs.length N.length 2) ((Fs 2).map fun x=>ii x) 3)::(74,.row 1 (cN rs.length N.length 3) ((Fs 3).map fun x=>ii x) 3)::(75,.row 1 (cN rs.length N.length 4) ((Fs 4).map fun x=>ii x) 3)::(76,.row 1 (cN rs.length N.length 5) ((Fs 5).map fun x=>ii x) 3)::(77,.row 1 (cN rs.length N.length 6) ((Fs 6).map fun x=>ii x) 3)::(78,.row 1 (cN rs.length N.length 7) ((Fs 7).map fun x=>ii x) 3)::(79,.row 1 (cN rs.length N.length 8) ((Fs 8).map fun x=>ii x) 3)::(80,.row 1 (cN rs.length N.length 9) ((Fs 9).map fun x=>ii x) 3)::(81,.row 1 (cN rs.length N.length 10) ((Fs 10).map fun x=>ii x) 3)::(82,.row 1 (cN rs.length N.length 11) ((Fs 11).map fun x=>ii x) 3)::(83,.row 1 (cN rs.length N.length 12) ((Fs 12).map fun x=>ii x) 3)::(84,.row 1 (cN rs.length N.length 13) ((Fs 13).map fun x=>ii x) 3)::(85,.row 1 (cN rs.length N.length 14) ((Fs 14).map fun x=>ii x) 3)::(86,.row 1 (cN rs.length N.length 15) ((Fs 15).map fun x=>ii x) 3)::(6,.row 4 S.length (mq2.flatMap Mrk.cells) 141)::(0,.cells (kF (ii tk) inp 63) 108)::(63,.row 1 16 [.opq 52,.opq 9,.opq 10,.opq 11,.opq 12,.opq 13,.opq 14,.opq 15,.opq 16,.opq 17,.opq 18,.opq 19,.opq 20,.opq 21,.opq 22,.opq 23] 27)::(52,.row 1 sl.length (sl.map fun x=>ii x) 3)::(51,.row 1 zo.length (zo.map fun x=>ii x) 3)::(3,.row 2 N.length (zs.flatMap Ste.cells) 139)::(1,.rwin 8 N.length (N.flatMap Prm.vals))::(2,.rwin 4 S.length (S.flatMap Syn.vals))::(4,.rwin 10 rs.length (rs.flatMap Rul.vals))::(5,.rwin 1 pl.length (qB pl))::(7,.row 1 rs.length (zO 25 rs.length) 27)::goB rs N sn tt plp) 100 rfl rfl
        ⟨.inl ⟨rfl,hisn 70 (by decide)⟩,.inl ⟨rfl,hisn 71 (by decide)⟩,.inl ⟨rfl,hisn 72 (by decide)⟩,.inl ⟨rfl,hisn 73 (by decide)⟩,.inl ⟨rfl,hisn 74 (by decide)⟩,.inl ⟨rfl,hisn 75 (by decide)⟩,.inl ⟨rfl,hisn 76 (by decide)⟩,.inl ⟨rfl,hisn 77 (by decide)⟩,.inl ⟨rfl,hisn 78 (by decide)⟩,.inl ⟨rfl,hisn 79 (by decide)⟩,.inl ⟨rfl,hisn 80 (by decide)⟩,.inl ⟨rfl,hisn 81 (by decide)⟩,.inl ⟨rfl,hisn 82 (by decide)⟩,.inl ⟨rfl,hisn 83 (by decide)⟩,.inl ⟨rfl,hisn 84 (by decide)⟩,.inl ⟨rfl,hisn 85 (by decide)⟩,.inl ⟨rfl,hisn 86 (by decide)⟩,.inr ⟨6,_,rfl,rfl,(ofx (o:=.row _ _ (List.flatMap Mrk.cells _) _) (qL _ _)).symm,rfl⟩,.inr ⟨0,_,rfl,rfl,rfl,rfl⟩,.inl ⟨rfl,hisn 63 (by decide)⟩,.inl ⟨rfl,hisn 52 (by decide)⟩,.inl ⟨rfl,hisn 51 (by decide)⟩,.inl ⟨rfl,hisn 3 (by decide)⟩,.inl ⟨rfl,hisn 1 (by decide)⟩,.inl ⟨rfl,hisn 2 (by decide)⟩,.inl ⟨rfl,hisn 4 (by decide)⟩,.inl ⟨rfl,hisn 5 (by decide)⟩,.inr ⟨7,_,rfl,rfl,(yV (r:=shR (fun q=>if q=8 then 63 else q) 41 100) (b:=25) (b':=25) (fun j hj=>by have inv :∀j,j<16→shR (fun q=>if q=8 then 63 else q) 41 100 (25+j)=25+j:=(by decide);exact inv j (by omega))).symm,rfl⟩,.inl ⟨rfl,hisn 9 (by decide)⟩,.inl ⟨rfl,hisn 10 (by decide)⟩,.inl ⟨rfl,hisn 11 (by decide)⟩,.inl ⟨rfl,hisn 12 (by decide)⟩,.inl ⟨rfl,hisn 13 (by decide)⟩,.inl ⟨rfl,hisn 14 (by decide)⟩,.inl ⟨rfl,hisn 15 (by decide)⟩,.inl ⟨rfl,hisn 16 (by decide)⟩,.inl ⟨rfl,hisn 17 (by decide)⟩,.inl ⟨rfl,hisn 18 (by decide)⟩,.inl ⟨rfl,hisn 19 (by decide)⟩,.inl ⟨rfl,hisn 20 (by decide)⟩,.inl ⟨rfl,hisn 21 (by decide)⟩,.inl ⟨rfl,hisn 22 (by decide)⟩,.inl ⟨rfl,hisn 23 (by decide)⟩,.inl ⟨rfl,hisn 24 (by decide)⟩,.inl ⟨rfl,hisn 25 (by decide)⟩,.inl ⟨rfl,hisn 26 (by decide)⟩,.inl ⟨rfl,hisn 27 (by decide)⟩,.inl ⟨rfl,hisn 28 (by decide)⟩,.inl ⟨rfl,hisn 29 (by decide)⟩,.inl ⟨rfl,hisn 30 (by decide)⟩,.inl ⟨rfl,hisn 31 (by decide)⟩,.inl ⟨rfl,hisn 32 (by decide)⟩,.inl ⟨rfl,hisn 33 (by decide)⟩,.inl ⟨rfl,hisn 34 (by decide)⟩,.inl ⟨rfl,hisn 35 (by decide)⟩,.inl ⟨rfl,hisn 36 (by decide)⟩,.inl ⟨rfl,hisn 37 (by decide)⟩,.inl ⟨rfl,hisn 38 (by decide)⟩,.inl ⟨rfl,hisn 39 (by decide)⟩,.inl ⟨rfl,hisn 40 (by decide)⟩,.inl ⟨rfl,hisn 43 (by decide)⟩,trivial⟩ ?_
       refine Run.W2 hc ?_
       conv=>whnf
       exact Run.tH (ih2 trivial) ⟨⟨rfl,ltb rfl⟩,⟨rfl,ltb rfl⟩,⟨rfl,ltb rfl⟩,⟨rfl,trivial⟩,⟨wsx (by omega),trivial⟩,trivial⟩ (by repeat first|exact trivial|refine⟨⟨rfl,by omega,qQ (by omega)⟩,?_⟩|refine⟨⟨rfl,by omega,Os.h _⟩,?_⟩|refine⟨⟨rfl,by omega,qE _ rfl⟩,?_⟩|refine⟨kw rfl rfl,?_⟩|refine⟨⟨rfl,by omega,pnx hcov rfl⟩,?_⟩) (lbx hLB rfl)
      ·intro _
       refine Run.W2 hc ?_
       conv=>whnf
       rw[decide_eq_false (show ¬((N.length:Nat):Int)<(N.length:Int)by omega)]
       conv=>whnf
       exact Run.tH (ih trivial) ⟨⟨rfl,ltb rfl⟩,⟨rfl,ltb rfl⟩,⟨rfl,ltb rfl⟩,⟨wsx (by omega),trivial⟩,trivial⟩ (by repeat first|exact trivial|refine⟨⟨rfl,by omega,qQ (by omega)⟩,?_⟩|refine⟨⟨rfl,by omega,Os.h _⟩,?_⟩|refine⟨⟨rfl,by omega,qE _ rfl⟩,?_⟩|refine⟨kw rfl rfl,?_⟩|refine⟨⟨rfl,by omega,pnx hcov rfl⟩,?_⟩) (lbx hLB rfl)
     ·intro _
      refine Run.W2 hc ?_
      conv=>whnf
      rw[decide_eq_false (show ¬((rs.length:Nat):Int)<(rs.length:Int)by omega)]
      conv=>whnf
      simp only[hsle]at hRR
      rw[←hRR]
      refine SpecR.pS (rq [(43,51),(51,43),(44,52),(52,44),(45,63),(63,45)]) (fun i hi=>zA (qS (B:=43) rfl hi)) ?_ (Widens.refl _ _) hLB (by decide) hcov rfl rfl (show 43<46 by decide) ⟨⟨congrArg some (ofx (o:=.row _ _ (List.map _ _) _) (qK _ _)).symm,by omega,Os.h _⟩,⟨congrArg some (ofx (o:=.row _ _ (List.map _ _) _) (qK _ _)).symm,by omega,Os.h _⟩,⟨rfl,by omega,qE _ rfl⟩,⟨rfl,by omega,qE _ rfl⟩,⟨congrArg some (ofx (o:=.row _ _ (List.flatMap Ste.cells _) _) (zJ _ _)).symm,by omega,Os.h _⟩,⟨congrArg some (ofx (o:=.row _ _ (List.flatMap Mrk.cells _) _) (qL _ _)).symm,by omega,Os.h _⟩,⟨congrArg some (yV (r:=rq [(43,51),(51,43),(44,52),(52,44),(45,63),(63,45)]) (b:=25) (b':=25) (fun j hj=>zA (qS (B:=43) rfl (show 25+j<43 by omega)))).symm,by omega,qQ (by omega)⟩,trivial⟩
      intro i hi j hj hne
      have inj :∀i,i<46 → ∀j,j<46→i≠j→rq [(43,51),(51,43),(44,52),(52,44),(45,63),(63,45)] i≠rq [(43,51),(51,43),(44,52),(52,44),(45,63),(63,45)] j:=by decide
      exact inj i hi j hj hne
def SnRel (s:Lst)(sn:Nat→List Int):Prop:= ∀d:Nat,d<16 → ∀a:Int,a∈sn d↔((d:Int)+1≤s.tick∧a∈s.sm (j5 (s.tick-1-d)))
theorem SnRel.start (x:Lnt):SnRel x.new fun _=>[]:=fun d _ a=>by
 constructor
 ·intro h;cases h
 ·intro h;cases h.2
theorem set_same {α : Type} :∀{l:List α} {i:Nat} {a : α},l[i]? = some a→l.set i a=l
 | [],_,_,_=>rfl
 |b::l,0,a,h=>by simp at h;subst h;rfl
 |b::l,i+1,a,h=>by rw[List.set_cons_succ,set_same (by simpa using h)]
theorem raY_eq {sn sm:Nat→List Int}{tick:Int}{S:List Syn}{m:List Mrk}{N:Nat}(h :∀i,i<S.length→raB sn (S.getD i qY)=arrB sm tick (S.getD i qY)) :∀j,j≤S.length→raY sn S m N j=aY sm tick S m N j
 | 0,_=>rfl
 |j+1,hj=>by
  have ih:=raY_eq h (m:=m) (N:=N) j (by omega)
  have hg:=raY_ge sn S m N j j (Nat.le_refl _)
  rw[t7,aY_succ,←ih]
  unfold raStep aStep
  rw[h j (by omega)]
  cases hb:arrB sm tick (S.getD j qY)
  ·rw[if_neg (by simp),if_neg (by simp)]
   have:(raY sn S m N j).1[j]? = some false:=by rw[hg,List.getElem?_replicate,if_pos (by omega)]
   rw[set_same this]
  ·rw[if_pos rfl,if_pos rfl]
theorem SnRel.arr {x:Lnt}{s:Lst}{sn:Nat→List Int}(hx:NetOK x)(hs:SnRel s sn){i:Nat}(hi:i<x.n.S.length):raB sn (x.n.S.getD i qY)=arrB s.sm s.tick (x.n.S.getD i qY):=by
 have hd0:=hx.d0 i hi
 have hd1:=hx.d1 i hi
 have hg:x.n.S.getD i qY=x.n.S[i]:=by simp[List.getD_eq_getElem?_getD,hi]
 rw[hg]
 generalize x.n.S[i]=y at hd0 hd1 ⊢
 have h:=hs (y.d-1).toNat (by omega) y.fr
 rw[show(((y.d-1).toNat:Nat):Int)+1=y.d by omega,show s.tick-1-(((y.d-1).toNat:Nat):Int)=s.tick-y.d by omega]at h
 unfold raB arrB
 rw[←Bool.decide_and,decide_eq_decide]
 exact h
theorem SnRel.ra {x:Lnt}{s:Lst}{sn:Nat→List Int}(hx:NetOK x)(hs:SnRel s sn):raL sn x.n.S s.m x.n.N.length=lA x s:=
 raY_eq (fun _ hi=>hs.arr hx hi) _ (Nat.le_refl _)
theorem mem_addJ {l:List Int}{a c:Int}:c∈addS l a↔c∈l∨c=a:=by
 unfold addS
 split
 ·rename_i h
  constructor
  ·exact .inl
  ·rintro(h1|rfl)
   ·exact h1
   ·exact h
 ·simp
theorem rnY_eq {N:List Prm}{sums:List Int}{st:List Ste}(hst:st.length=N.length)(hv :∀i (h:i<N.length) (h':i<st.length),vld N[i] st[i]=0) :∀j,j≤N.length →
  (rnY j8 yM N sums st j).1=(nY N sums st j).1∧(rnY j8 yM N sums st j).2.2=(nY N sums st j).2.1∧(∀i,i<N.length→(rnY j8 yM N sums st j).2.1.getD i false=decide ((i:Int)∈(nY N sums st j).2.2))∧(∀a,a∈(nY N sums st j).2.1↔a∈(nY N sums st j).2.2)∧(∀a,a∈(nY N sums st j).2.2→0≤a∧a<(j:Int))
 | 0,_=>⟨rfl,rfl,fun i hi=>by simp[rnY,nY,hi],fun a=>Iff.rfl,fun a h=>by cases h⟩
 |j+1,hj=>by
  obtain⟨h1,h2,h3,h4,h5⟩:=rnY_eq hst hv (sums:=sums) j (by omega)
  have hl:=(rnY_len j8 yM N sums st j).2.1
  have hge:=nY_ge N sums st j j (Nat.le_refl _)
  have hjs:j<st.length:=by omega
  have hs':(nY N sums st j).1.getD j jQ=st[j]:=by rw[List.getD_eq_getElem?_getD,hge];simp[hjs]
  have hp:N.getD j prm0=N[j]:=by rw[List.getD_eq_getElem?_getD];simp[show j<N.length by omega]
  have hvj:=hv j (by omega) hjs
  obtain⟨es,eb⟩:=step_same (sG hvj).1 (s:=st[j]) (vld_good.1 hvj).2.2.1 (sums.getD j 0)
  rw[←hs',←hp]at es eb
  rw[rnY_succ,wR]
  simp only[rnStep,nStep]
  simp only[h1,h2,←es,←eb]
  refine⟨trivial,?_⟩
  rcases Bool.eq_false_or_eq_true (xI (N.getD j prm0) ((nY N sums st j).1.getD j jQ) (sums.getD j 0))with hb|hb
  rotate_left
  ·simp only[hb,Bool.false_eq_true,if_false]
   refine⟨trivial,fun i hi=> ?_,h4,fun a ha=>by have:=h5 a ha;omega⟩
   by_cases hij:i=j
   ·subst hij
    have hn :¬(i:Int)∈(nY N sums st i).2.2:=fun h=>by have:=h5 _ h;omega
    rw[List.getD_eq_getElem?_getD,List.getElem?_set_self (by omega),decide_eq_false hn];rfl
   ·rw[List.getD_eq_getElem?_getD,List.getElem?_set_ne (fun h=>hij h.symm),←List.getD_eq_getElem?_getD]
    exact h3 i hi
  ·simp only[hb,if_true]
   refine⟨trivial,fun i hi=> ?_,fun a=> ?_,fun a ha=> ?_⟩
   ·by_cases hij:i=j
    ·subst hij
     rw[List.getD_eq_getElem?_getD,List.getElem?_set_self (by omega),decide_eq_true (mem_addJ.2 (.inr rfl))];rfl
    ·rw[List.getD_eq_getElem?_getD,List.getElem?_set_ne (fun h=>hij h.symm),←List.getD_eq_getElem?_getD,h3 i hi,decide_eq_decide,mem_addJ]
     constructor
     ·exact .inl
     ·rintro(h|h)
      ·exact h
      ·exact absurd (Int.ofNat.inj h) hij
   ·rw[mem_addJ,List.mem_append,List.mem_singleton,h4 a]
   ·rcases mem_addJ.1 ha with h|rfl
    ·have:=h5 a h;omega
    ·omega
theorem mem_sendJ :∀{inp:List Int} {sp:List Int} {c:Int},c∈kG sp inp↔c∈sp∨c∈inp.map fun k=>W (-1-k)
 | [],sp,c=>by simp[kG]
 |k::inp,sp,c=>by
  show c∈kG (addS sp (W (-1-k))) inp↔_
  rw[mem_sendJ,mem_addJ,List.map_cons,List.mem_cons]
  constructor
  ·rintro((h|h)|h)
   ·exact .inl h
   ·exact .inr (.inl h)
   ·exact .inr (.inr h)
  ·rintro(h|h|h)
   ·exact .inl (.inl h)
   ·exact .inl (.inr h)
   ·exact .inr h
theorem slot_ne {t:Int}{d:Nat}(h0:(d:Int)+1≤t)(h1:d+1<16):j5 (t-1-(d:Int))≠j5 t:=by
 have e1:=gE (t:=t) (by omega)
 have e2:=gE (t:=t-1-(d:Int)) (by omega)
 rw[Int.tmod_eq_emod_of_nonneg (by omega)]at e1 e2
 omega
def snN (sn:Nat→List Int)(inputs zo:List Int):Nat→List Int
 | 0=>sL inputs zo inputs.length
 |d+1=>sn d
theorem SnRel.next {x:Lnt}{s:Lst}{sn:Nat→List Int}(hs:SnRel s sn)(h0:0≤s.tick)(h1:s.tick<4611686018427387904)(inputs rw0 zo:List Int)(hz :∀a,a∈zo↔a∈(lB x s).2.2):SnRel (lN x s inputs rw0) (snN sn inputs zo):=by
 have hw:(lN x s inputs rw0).tick=s.tick+1:=zM (by omega) (by omega)
 intro d hd a
 rw[hw]
 cases d with
 |zero=>
  rw[show s.tick+1-1-((0:Nat):Int)=s.tick by omega]
  show a∈zo++(inputs.take inputs.length).map (fun k=>W (-1-k))↔_∧a∈(if j5 s.tick=j5 s.tick then kG (lB x s).2.2 inputs else s.sm (j5 s.tick))
  rw[if_pos rfl,List.take_length,List.mem_append,mem_sendJ,hz]
  constructor
  ·exact fun h=>⟨by omega,h⟩
  ·exact fun h=>h.2
 |succ d=>
  rw[show s.tick+1-1-((d+1:Nat):Int)=s.tick-1-(d:Int)by omega]
  show a∈sn d↔_∧a∈(if j5 (s.tick-1-(d:Int))=j5 s.tick then kG (lB x s).2.2 inputs else s.sm (j5 (s.tick-1-(d:Int))))
  rw[hs d (by omega) a]
  constructor
  ·rintro⟨h2,h3⟩
   rw[if_neg (slot_ne h2 hd)]
   exact⟨by omega,h3⟩
  ·rintro⟨h2,h3⟩
   have h4:(d:Int)+1≤s.tick:=by omega
   rw[if_neg (slot_ne h4 hd)]at h3
   exact⟨h4,h3⟩
theorem shr_w {a s:Int}(ha:0≤a)(hb:a≤16711425)(hs:0≤s∧s≤16):W ((W a).tdiv (pwr s))=(W a).fdiv (2 ^ min s.toNat 64):=by
 rw[zM (a:=a) (by omega) (by omega),←shr_div ha hs]
 have hp:=pw2_eq s.toNat (by omega)
 have hp0:(0:Int)<2 ^ s.toNat:=by exact_mod_cast Nat.pow_pos (by decide)
 have h1:a.fdiv (2 ^ min s.toNat 64)=a / 2 ^ s.toNat:=by rw[show min s.toNat 64=s.toNat by omega,Int.fdiv_eq_ediv_of_nonneg a (by omega)]
 rw[h1]
 have h2:=Int.ediv_nonneg (b:=(2:Int) ^ s.toNat) ha (by omega)
 have h3:=Int.ediv_le_self ((2:Int) ^ s.toNat) ha
 exact zM (by omega) (by omega)
theorem rchC_eq {r:Rul}(hr:GoodR r){m:Mrk}(hx:0≤m.x∧m.x≤65535)(hy:0≤m.y∧m.y≤65535)(sp ar:Bool):rchC r m sp ar=chgM r m sp ar:=by
 have hu0:0≤r.up*m.x:=Int.mul_nonneg hr.up.1 hx.1
 have hu1:r.up*m.x≤255*65535:=Int.mul_le_mul hr.up.2 hx.2 hx.1 (by decide)
 have hd0:0≤r.down*m.y:=Int.mul_nonneg hr.down.1 hy.1
 have hd1:r.down*m.y≤255*65535:=Int.mul_le_mul hr.down.2 hy.2 hy.1 (by decide)
 unfold rchC chgM
 rw[shr_w hu0 (by omega) hr.shift,shr_w hd0 (by omega) hr.shift]
theorem fade_ok {r:Rul}(hr:GoodR r){m:Mrk}(hm:MrkOK r m):(0≤(yP r m).x∧(yP r m).x≤65535)∧(0≤(yP r m).y∧(yP r m).y≤65535):=by
 have tr :∀a k:Int,0≤a→a≤65535→0≤k→k≤255→0≤W ((W (a*k)).tdiv 256)∧W ((W (a*k)).tdiv 256)≤65535:=by
  intro a k h1 h2 h3 h4
  have h5:a*k≤65535*255:=Int.mul_le_mul h2 h4 h3 (by decide)
  have h6:0≤a*k:=Int.mul_nonneg h1 h3
  have e1:W (a*k)=a*k:=zM (by omega) (by omega)
  rw[e1]
  have h7:(a*k).tdiv 256=a*k / 256:=Int.tdiv_eq_ediv_of_nonneg h6
  rw[h7,zM (by omega) (by omega)]
  omega
 exact⟨tr m.x r.keep hm.x0 hm.x1 hr.keep.1 hr.keep.2,tr m.y r.keep hm.y0 hm.y1 hr.keep.1 hr.keep.2⟩
theorem rpMark_eq {r:Rul}(hr:GoodR r){m:Mrk}(hm:MrkOK r m)(sp ar:Bool)(q:Int):rpMark r sp ar q m=pMark r sp ar q m:=by
 obtain⟨hx,hy⟩:=fade_ok hr hm
 have hc:=rchC_eq hr hx hy sp ar
 rw[pMark_eq rfl rfl rfl]
 unfold rpMark rchg finM pairM rewM
 rw[hc]
 generalize chgM r (yP r m) sp ar=c
 generalize yP r m=f
 by_cases hk:r.kind=1
 ·simp only[if_pos hk]
  cases sp<;>cases ar<;>rfl
 ·simp only[if_neg hk]
  cases sp<;>cases ar<;>rfl
theorem rpY_get (S:List Syn)(rs:List Rul)(pl:List Int)(arr spk:List Bool)(rw0:List Int)(m:List Mrk)(hl:pl.length≤m.length) :∀j,j≤pl.length → ∀i,(rpY S rs pl arr spk rw0 m j).getD i qM =
  if i<j∧0≤pl.getD i (-1)then rpMark (rs.getD (pl.getD i (-1)).toNat q8) (spk.getD (S.getD i qY).to.toNat false) (arr.getD i false) (rw0.getD (pl.getD i (-1)).toNat 0) (m.getD i qM)else m.getD i qM
 | 0,_,i=>by rw[if_neg (by omega)];rfl
 |j+1,hj,i=>by
  have ih:=rpY_get S rs pl arr spk rw0 m hl j (by omega)
  rw[rpY_succ]
  unfold rpStep
  split
  ·rename_i hn
   rw[ih i]
   by_cases hij:i=j
   ·subst hij
    rw[if_neg (by omega),if_neg (by omega)]
   ·by_cases hc:i<j∧0≤pl.getD i (-1)
    ·rw[if_pos hc,if_pos (by omega)]
    ·rw[if_neg hc,if_neg (by omega)]
  ·rename_i hn
   rw[kQ (by rw[wS];omega)]
   by_cases hij:j=i
   ·subst hij
    rw[if_pos rfl,if_pos (by omega),ih j,if_neg (by omega)]
   ·rw[if_neg hij,ih i]
    by_cases hc:i<j∧0≤pl.getD i (-1)
    ·rw[if_pos hc,if_pos (by omega)]
    ·rw[if_neg hc,if_neg (by omega)]
theorem rp_eq {x:Lnt}{s:Lst}(hx:NetOK x)(h:LInv x s)(rw0:List Int)(spk:List Bool)(hspk :∀i,i<x.n.N.length→spk.getD i false=decide ((i:Int)∈(lB x s).2.2)) :
  rpY x.n.S x.rs x.pl (lA x s).1 spk rw0 s.m x.n.S.length=lP x s rw0:=by
 have hpl:=hx.lpl
 have hm:=h.lm
 refine getD_ext (by rw[wS,lP_len]) fun i=> ?_
 rw[lP_get hx h,←hpl,rpY_get _ _ _ _ _ _ _ (by omega) _ (Nat.le_refl _)]
 by_cases hi:i∈zG x.pl
 ·have hi2:=plIdx_iff.1 hi
  rw[if_pos hi,if_pos hi2]
  have hS:i<x.n.S.length:=by omega
  have hg:x.n.S.getD i qY=x.n.S[i]:=by simp[List.getD_eq_getElem?_getD,hS]
  have h0:=hx.to0 i hS
  have h1:=hx.to1 i hS
  have e:spk.getD (x.n.S.getD i qY).to.toNat false=decide ((x.n.S.getD i qY).to∈(lB x s).2.2):=by
   rw[hg,hspk _ (by omega),show((x.n.S[i].to.toNat:Nat):Int)=x.n.S[i].to by omega]
  rw[e]
  exact rpMark_eq (hx.good hi) (h.mok i hi) _ _ _
 ·rw[if_neg hi,if_neg (fun h=>hi (plIdx_iff.2 h))]
def grpR (S:List Syn)(pl:List Int)(r p:Int)(j:Nat):List Nat:=(List.range j).filter fun i=>decide (pl.getD i (-1)=r∧(S.getD i qY).to=p)
theorem grp_rangeJ (S:List Syn)(pl:List Int){r p:Int}(hr:0≤r):grp S pl r p=grpR S pl r p pl.length:=by
 unfold grp grpR zG
 rw[List.filter_filter]
 congr 1
 funext i
 by_cases h:pl.getD i (-1)=r∧(S.getD i qY).to=p
 ·rw[decide_eq_true h,decide_eq_true (show 0≤pl.getD i (-1)by omega)];rfl
 ·rw[decide_eq_false h];rfl
theorem gsumJ_app (a b:List Nat)(m:List Mrk):qX (a++b) m=qX a m+qX b m:=by
 induction a with
 |nil=>simp[qX]
 |cons i a ih=>
  show wAt m i+qX (a++b) m=(wAt m i+qX a m)+qX b m
  rw[ih];omega
theorem rsY_sum (S:List Syn)(pl:List Int)(m:List Mrk)(R N:Nat)(hp :∀i (h:i<pl.length),pl[i]<(R:Int))(hS:pl.length=S.length)(hl:pl.length≤8192)(h0 :∀i (h:i<S.length),0≤S[i].to)(h1 :∀i (h:i<S.length),S[i].to<(N:Int))(hb :∀i∈zG pl,-255≤wAt m i∧wAt m i≤255) :∀j,j≤pl.length → ∀r p:Nat,r<R→p<N →
  (rsY S pl m R N j r).getD p 0=qX (grpR S pl r p j) m ∧ -255*(j:Int)≤qX (grpR S pl r p j) m∧qX (grpR S pl r p j) m≤255*(j:Int)
 | 0,_,r,p,hr,hpN=>by
  refine⟨?_,by simp[grpR,qX],by simp[grpR,qX]⟩
  simp[rsY,zF,hr,hpN,grpR,qX]
 |j+1,hj,r,p,hr,hpN=>by
  have ih:=rsY_sum S pl m R N hp hS hl h0 h1 hb j (by omega)
  obtain⟨i1,i2,i3⟩:=ih r p hr hpN
  have hlen:=u1 S pl m R N j
  have hjp:j<pl.length:=by omega
  have hjS:j<S.length:=by omega
  have hpj:=hp j hjp
  have epj:pl.getD j (-1)=pl[j]:=by simp[List.getD_eq_getElem?_getD,hjp]
  have esj:S.getD j qY=S[j]:=by simp[List.getD_eq_getElem?_getD,hjS]
  have t0:=h0 j hjS
  have t1:=h1 j hjS
  have hsplit:grpR S pl r p (j+1)=grpR S pl r p j++(if pl[j]=(r:Int)∧S[j].to=(p:Int)then [j]else []):=by
   unfold grpR
   rw[List.range_succ,List.filter_append]
   congr 1
   rw[List.filter_cons,List.filter_nil,epj,esj]
   by_cases h:pl[j]=(r:Int)∧S[j].to=(p:Int)
   ·rw[if_pos h,if_pos (decide_eq_true h)]
   ·rw[if_neg h,if_neg (by simp[h])]
  rw[rsY_succ,hsplit,gsumJ_app]
  unfold rsStep
  rw[epj,esj]
  by_cases h:pl[j]=(r:Int)∧S[j].to=(p:Int)
  ·have hw:=hb j (plIdx_iff.2 ⟨hjp,by rw[epj];omega⟩)
   have hg1:qX [j] m=wAt m j:=by simp[qX]
   rw[if_pos h,if_pos (by omega),hg1]
   have e1:pl[j].toNat=r:=by omega
   have e2:S[j].to.toNat=p:=by omega
   rw[e1,e2]
   refine⟨?_,by omega,by omega⟩
   unfold putF
   rw[if_pos rfl]
   have hlr:(rsY S pl m R N j r).length=N:=by rw[hlen];unfold cN;rw[if_pos hr]
   rw[i1,List.getD_eq_getElem?_getD,List.getElem?_set_self (by omega)]
   show W (qX (grpR S pl r p j) m+wAt m j)=_
   exact zM (by omega) (by omega)
  ·rw[if_neg h]
   have hg1:qX [] m=0:=rfl
   rw[hg1,Int.add_zero]
   refine⟨?_,by omega,by omega⟩
   by_cases hp0:0≤pl[j]
   ·rw[if_pos hp0]
    unfold putF
    by_cases hk:r=pl[j].toNat
    ·rw[if_pos hk,←hk]
     have hne:S[j].to.toNat≠p:=fun e=>h ⟨by omega,by omega⟩
     rw[List.getD_eq_getElem?_getD,List.getElem?_set_ne hne,←List.getD_eq_getElem?_getD]
     exact i1
    ·rw[if_neg hk];exact i1
   ·rw[if_neg hp0];exact i1
theorem rsL_sum {x:Lnt}(hx:NetOK x){m:List Mrk}(hb :∀i∈zG x.pl,-255≤wAt m i∧wAt m i≤255){r p:Nat}(hr:r<x.rs.length)(hp:p<x.n.N.length) :
  (rsL x.n.S x.pl m x.rs.length x.n.N.length r).getD p 0=qX (grp x.n.S x.pl r p) m:=by
 have h1:=hx.lpl
 have h2:=hx.S1
 rw[grp_rangeJ x.n.S x.pl (show(0:Int)≤(r:Int)by omega)]
 exact(rsY_sum x.n.S x.pl m x.rs.length x.n.N.length hx.p1 h1 (by omega) hx.to0 hx.to1 hb x.pl.length (Nat.le_refl _) r p hr hp).1
set_option maxHeartbeats 2000000
theorem m0_bounds {x:Lnt}(hx:NetOK x) :∀i∈zG x.pl,-255≤wAt x.m0 i∧wAt x.m0 i≤255:=fun i hi=>by
 have h0:=LInv.start hx
 have h1:=(h0.mok i hi).w0
 have h2:=(h0.mok i hi).w1
 have h3:=(hx.good hi).bounds
 have e:x.new.m=x.m0:=rfl
 rw[e]at h1 h2
 unfold wAt
 omega
end Go.Proofs.Ytnnlpdgnlccbjaa
