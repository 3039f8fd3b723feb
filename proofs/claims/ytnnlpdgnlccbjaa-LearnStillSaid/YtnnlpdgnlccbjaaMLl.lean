/-
  Laws of the executor, and walks of functions (part 12). The conditions stand with each law.
-/
import Derived.SizedLaws
import Derived.Test.YtnnlpdgnlccbjaaMLk
namespace Go.Proofs.Ytnnlpdgnlccbjaa
open Go.Sx
open Go.ChangeShapes Go.WideShapes Go.ChangeAt Go.RowKit Go.Deep Go.Joins
set_option maxRecDepth 100000
section
variable {H:Type} {enc:TypeId×Value→H} {W:World} {base b0:Nat} {spare:Nat→Bool} {held:Bool} {r:Reach} {v:Value} {d:DataW H} {pl:List MemPlace}
def LenD (d:DataW H)(n:Nat):Prop:=(d = .nil∧n=0) ∨ ∃es sp,d = .slice es sp∧es.length=n
theorem el_rowsD {α : Type}{t e:TypeId}{k:Nat}(vals : α → List Value)(hvl :∀a,(vals a).length=k)(hk:0<k)(ht:Try.prog.underlying t=some (.slice e))(hc:Try.prog.cellsOf e=k)
  (hel :∀{n:Nat} {cs:List Value} {y:DataW H×List MemPlace},DataW.trod enc Try.prog W base spare held n e cs=some y → ∃p : α,cs=vals p) {n:Nat} {cs:List Value} {y:DataW H×List MemPlace} (h:DataW.trod enc Try.prog W base spare held n t cs=some y) :
  ∃(v:Value) (l:List α),cs=[v]∧RowsAt W v k l.length (l.flatMap vals)∧LenD y.1 l.length:=by
 obtain⟨v,l,h1,h2,_⟩:=u3 vals hvl hk ht hc hel h
 refine⟨v,l,h1,h2,?_⟩
 obtain⟨_,p,c,hv,_⟩:=h2
 rcases DataW.trod_slice ht h with⟨g0,g1⟩|⟨a,len,cap,elems,rest,m,_,g0,g1,_,_,_,g2,_⟩
 ·refine .inl ⟨by rw[g1],?_⟩
  rw[h1,hv]at g0
  simp only[List.cons.injEq,Value.slice.injEq,and_true]at g0
  exact g0.2.1
 ·refine .inr ⟨_,_,by rw[g1],?_⟩
  rw[h1,hv]at g0
  simp only[List.cons.injEq,Value.slice.injEq,and_true]at g0
  rw[List.length_map,g2]
  exact g0.2.1.symm
theorem el_case {n:Nat}{cs:List Value}{y:DataW H×List MemPlace}(h:DataW.trod enc Try.prog W base spare held n 45 cs=some y) :
  ∃(vN vS vR vP vE vZ:Value) (x:Net) (rs:List Rul) (p:List Int) (l:List Evt) (z:List Prz) (K:Int),cs=[vN,.int .i64 x.inp,vS,vR,vP,vE,vZ,.int .i64 K]∧xU W vN vS x∧RowsAt W vR 10 rs.length (rs.flatMap Rul.vals)∧RowsAt W vP 1 p.length (qD p)∧RowsAt W vE 2 l.length (l.flatMap Evt.vals)∧RowsAt W vZ 3 z.length (z.flatMap Prz.vals) ∧
   ∃dn dr ds,y.1 = .agg (dn::dr::ds)∧LenD dr rs.length:=by
 obtain⟨xs,m,_,hx,hlen,hxl,hg⟩:=DataW.trod_struct Try.underlying45 h
 have hC:Try.prog.cellsOf 45=8:=by kernel_rfl
 rw[hC]at hlen
 match cs,hlen with
 | [c0,c1,c2,c3,c4,c5,c6,c7],_=>
  match xs,hxl with
  | [y0,y1,y2,y3,y4,y5],_=>
   have h1:Try.prog.cellsOf 3=1:=by kernel_rfl
   have h2:Try.prog.cellsOf 25=3:=by kernel_rfl
   have h3:Try.prog.cellsOf 26=1:=by kernel_rfl
   have h4:Try.prog.cellsOf 27=1:=by kernel_rfl
   have h5:Try.prog.cellsOf 42=1:=by kernel_rfl
   have h6:Try.prog.cellsOf 43=1:=by kernel_rfl
   have g0:DataW.trod enc Try.prog W base spare held m 25 [c0,c1,c2]=some y0:=by simpa[h2]using hg 0 _ rfl
   have g1:DataW.trod enc Try.prog W base spare held m 26 [c3]=some y1:=by simpa[h3]using hg 1 _ rfl
   have g2:DataW.trod enc Try.prog W base spare held m 27 [c4]=some y2:=by simpa[h4]using hg 2 _ rfl
   have g3:DataW.trod enc Try.prog W base spare held m 42 [c5]=some y3:=by simpa[h5]using hg 3 _ rfl
   have g4:DataW.trod enc Try.prog W base spare held m 43 [c6]=some y4:=by simpa[h6]using hg 4 _ rfl
   have g5:DataW.trod enc Try.prog W base spare held m 3 [c7]=some y5:=by simpa[h1]using hg 5 _ rfl
   obtain⟨vN,vS,x,e0,r0⟩:=el_net g0
   obtain⟨v1,l1,e1,r1,d1⟩:=el_rowsD Rul.vals Rul.vlen (by decide) Try.underlying26 (by kernel_rfl) el_rul g1
   obtain⟨v2,l2,e2,r2,_⟩:=el_introw g2
   obtain⟨v3,l3,e3,r3,_⟩:=u3 Evt.vals Evt.vlen (by decide) Try.underlying42 (by kernel_rfl) el_evt g3
   obtain⟨v4,l4,e4,r4,_⟩:=u3 Prz.vals Prz.vlen (by decide) Try.underlying43 (by kernel_rfl) el_prz g4
   obtain⟨K,e5⟩:=el_int g5
   simp only[List.cons.injEq,and_true]at e0 e1 e2 e3 e4 e5
   obtain⟨rfl,rfl,rfl⟩:=e0
   subst e1 e2 e3 e4 e5
   exact⟨_,_,_,_,_,_,x,l1,l2,l3,l4,K,rfl,r0,r1,r2,r3,r4,y0.1,y1.1,[y2.1,y3.1,y4.1,y5.1],by rw[hx];rfl,d1⟩
theorem open_case (hv:Value.okWide Try.prog W r b0 45 v)(h:DataW.Trod enc Try.prog W base spare held 45 v d pl)(hw :∀n∈DataW.weights Try.prog 45 d,n≤reachBytes) :
  ∃(vN vS vR vP vE vZ:Value) (x:Net) (rs:List Rul) (p:List Int) (l:List Evt) (z:List Prz) (K:Int),v=caseV vN vS vR vP vE vZ x K∧xU W vN vS x∧RowsAt W vR 10 rs.length (rs.flatMap Rul.vals)∧RowsAt W vP 1 p.length (qD p)∧RowsAt W vE 2 l.length (l.flatMap Evt.vals)∧RowsAt W vZ 3 z.length (z.flatMap Prz.vals) ∧
   rs.length*80≤140737488355328:=by
 obtain⟨cs,rfl,hsz⟩:=okWide_struct Try.underlying45 hv
 obtain⟨q⟩:=cs
 obtain⟨fuel,hf⟩:=h
 obtain⟨vN,vS,vR,vP,vE,vZ,x,rs,p,l,z,K,hp,h1,h2,h3,h4,h5,dn,dr,ds,hd,hl⟩:=el_case hf
 simp[Value.cells]at hp
 subst hp
 refine⟨vN,vS,vR,vP,vE,vZ,x,rs,p,l,z,K,rfl,h1,h2,h3,h4,h5,?_⟩
 rcases hl with⟨_,h0⟩|⟨es,sp,he,hl⟩
 ·rw[h0];decide
 ·have hd:d = .agg (dn::dr::ds):=hd
  have hb:Try.prog.bytesOf 36=80:=by kernel_rfl
  have hm:(es.length+sp.length)*Try.prog.bytesOf 36∈DataW.weights Try.prog 45 d:=by
   rw[hd,he]
   simp only[DataW.weights,Try.underlying45,List.map,DataW.weightsEach,Try.underlying26,List.mem_append,List.mem_cons]
   exact .inr (.inl (.inl trivial))
  have:=hw _ hm
  rw[hb,hl]at this
  unfold reachBytes at this
  omega
end
end Go.Proofs.Ytnnlpdgnlccbjaa
namespace Go.Proofs.Ytnnlpdgnlccbjaa
open Go.Sx
set_option maxRecDepth 100000
set_option maxHeartbeats 2000000
theorem pw_of_adj {α : Type}{R : α → α → Prop}(tr :∀a b c,R a b→R b c→R a c) :∀(l:List α),(∀i (h:i+1<l.length),R (l[i]'(by omega)) l[i+1])→l.Pairwise R
 | [],_=>.nil
 | [a],_=>List.pairwise_singleton _ _
 |a::b::l,h=>by
  have ih:=pw_of_adj tr (b::l) (fun i hi=>h (i+1) (by simpa using hi))
  have hab:R a b:=h 0 (by simp)
  refine .cons (fun x hx=> ?_) ih
  rcases List.mem_cons.1 hx with rfl|hx
  ·exact hab
  ·exact tr _ _ _ hab ((List.pairwise_cons.1 ih).1 x hx)
structure EvsOK (inp:Int) (l:List Evt):Prop where
 t0 :∀e∈l,0≤e.tick
 id :∀e∈l,0≤e.id∧e.id≤inp-1
 pw:l.Pairwise (fun a b=>a.tick<b.tick∨a.tick=b.tick∧a.id<b.id)
theorem kX {inp:Int}{l:List Evt}(h:yJ inp 10000 l=0)(h0:0≤inp∧inp≤256):EvsOK inp l:=by
 unfold yJ at h
 split at h
 ·cases h
 have hz :∀i,i<l.length→evAt inp 10000 l i=0:=fun i hi=>by
  have:=xK h i (by simpa using hi)
  simpa only[List.getElem_range]using this
 have e2:W (inp-1)=inp-1:=zL (by omega) (by omega)
 have hi1 :∀i (hi:i<l.length),0≤l[i].tick∧0≤l[i].id∧l[i].id≤inp-1:=fun i hi=>by
  have:=hz i hi
  unfold evAt at this
  have e:l.getD i evt0=l[i]:=by simp[List.getD_eq_getElem?_getD,hi]
  rw[e,e2]at this
  split at this
  ·cases this
  rename_i hw
  simp only[Bool.not_eq_false,Bool.and_eq_true,wi_iff]at hw
  omega
 refine⟨fun e he=> ?_,fun e he=> ?_,pw_of_adj (fun a b c h1 h2=>by omega) l fun i hi=> ?_⟩
 ·obtain⟨i,hi,rfl⟩:=List.getElem_of_mem he;exact(hi1 i hi).1
 ·obtain⟨i,hi,rfl⟩:=List.getElem_of_mem he;exact(hi1 i hi).2
 ·have:=hz (i+1) hi
  unfold evAt at this
  have ea:l.getD i evt0=l[i]:=by simp[List.getD_eq_getElem?_getD,show i<l.length by omega]
  have eb:l.getD (i+1) evt0=l[i+1]:=by simp[List.getD_eq_getElem?_getD,hi]
  rw[Nat.add_sub_cancel,ea,eb]at this
  split at this
  ·cases this
  split at this
  ·cases this
  ·rename_i h3
   omega
theorem EvsOK.le {inp:Int}{l:List Evt}(h:EvsOK inp l):l.Pairwise (fun a b=>a.tick≤b.tick):=h.pw.imp (by intro a b h;omega)
theorem prep_evs {inp:Int}{l:List Evt}{K:Int}(h:zO ⟨[zB],inp,[]⟩ l K 10000=0):yJ inp 10000 l=0:=by
 unfold zO at h
 split at h
 ·rename_i h1;exact absurd h h1
 split at h
 ·cases h
 exact h
theorem m0_bounds {x:Lnt}(hx:NetOK x) :∀i∈zD x.pl,-255≤wAt x.m0 i∧wAt x.m0 i≤255:=fun i hi=>by
 have h0:=LInv.start hx
 have h1:=(h0.mok i hi).w0
 have h2:=(h0.mok i hi).w1
 have h3:=(hx.good hi).bounds
 have e:x.new.m=x.m0:=rfl
 rw[e]at h1 h2
 unfold wAt
 omega
theorem fdiv_pow {a:Int}(h0:0≤a)(k:Nat):0≤a.fdiv (2 ^ k)∧a.fdiv (2 ^ k)≤a:=by
 have hp:(0:Int)<2 ^ k:=by exact_mod_cast Nat.pos_of_ne_zero (by simp)
 rw[Int.fdiv_eq_ediv_of_nonneg a (by omega)]
 exact⟨Int.ediv_nonneg h0 (by omega),Int.ediv_le_self _ h0⟩
theorem chg_parts {r:Rul}(hr:GoodR r){m:Mrk}(h0:0≤m.x∧m.x≤65535)(h1:0≤m.y∧m.y≤65535)(sp ar:Bool) :
  ∃a b:Int,chgM r m sp ar=a-b∧0≤a∧a≤16711425∧0≤b∧b≤16711425∧(r.up=0→a=0)∧(r.down=0→b=0):=by
 have hu:=hr.up
 have hd:=hr.down
 have bu:0≤r.up*m.x∧r.up*m.x≤16711425:=⟨Int.mul_nonneg hu.1 h0.1,Int.le_trans (Int.mul_le_mul hu.2 h0.2 h0.1 (by decide)) (by decide)⟩
 have bd:0≤r.down*m.y∧r.down*m.y≤16711425:=⟨Int.mul_nonneg hd.1 h1.1,Int.le_trans (Int.mul_le_mul hd.2 h1.2 h1.1 (by decide)) (by decide)⟩
 have e1:W (r.up*m.x)=r.up*m.x:=zL (by omega) (by omega)
 have e2:W (r.down*m.y)=r.down*m.y:=zL (by omega) (by omega)
 have f1:=fdiv_pow bu.1 (min r.shift.toNat 64)
 have f2:=fdiv_pow bd.1 (min r.shift.toNat 64)
 have z1:r.up=0→(r.up*m.x).fdiv (2 ^ min r.shift.toNat 64)=0:=fun h=>by rw[h,Int.zero_mul,Int.zero_fdiv]
 have z2:r.down=0→(r.down*m.y).fdiv (2 ^ min r.shift.toNat 64)=0:=fun h=>by rw[h,Int.zero_mul,Int.zero_fdiv]
 unfold chgM
 simp only[e1,e2]
 generalize(r.up*m.x).fdiv (2 ^ min r.shift.toNat 64)=A at f1 z1
 generalize(r.down*m.y).fdiv (2 ^ min r.shift.toNat 64)=B at f2 z2
 have g1:W (0+A)=A:=by rw[Int.zero_add];exact zL (by omega) (by omega)
 have g2:W (A-B)=A-B:=zL (by omega) (by omega)
 have g3:W (0-B)=0-B:=zL (by omega) (by omega)
 cases sp<;>cases ar<;>simp only[if_true,if_false,Bool.false_eq_true,g1,g2,g3]
 ·exact⟨0,0,rfl,by omega,by omega,by omega,by omega,fun _=>rfl,fun _=>rfl⟩
 ·exact⟨0,B,rfl,by omega,by omega,f2.1,by omega,fun _=>rfl,z2⟩
 ·exact⟨A,0,by omega,f1.1,by omega,by omega,by omega,z1,fun _=>rfl⟩
 ·exact⟨A,B,rfl,f1.1,by omega,f2.1,by omega,z1,z2⟩
theorem sH {r:Rul}(hr:GoodR r){m:Mrk}(hm:MrkOK r m):(0≤(jV r m).x∧(jV r m).x≤65535)∧(0≤(jV r m).y∧(jV r m).y≤65535):=by
 have tr :∀a k:Int,0≤a→a≤65535→0≤k→k≤255→0≤W ((W (a*k)).tdiv 256)∧W ((W (a*k)).tdiv 256)≤65535:=by
  intro a k h1 h2 h3 h4
  have h5:a*k≤65535*255:=Int.mul_le_mul h2 h4 h3 (by decide)
  have h6:0≤a*k:=Int.mul_nonneg h1 h3
  have e1:W (a*k)=a*k:=zL (by omega) (by omega)
  rw[e1]
  have h7:(a*k).tdiv 256=a*k / 256:=Int.tdiv_eq_ediv_of_nonneg h6
  rw[h7,zL (by omega) (by omega)]
  omega
 exact⟨tr m.x r.keep hm.x0 hm.x1 hr.keep.1 hr.keep.2,tr m.y r.keep hm.y0 hm.y1 hr.keep.1 hr.keep.2⟩
theorem finM_w (r:Rul)(sp ar:Bool)(m:Mrk):(finM r sp ar m).w=max r.lo (min r.hi m.w):=by
 unfold finM
 cases sp<;>cases ar<;>rfl
theorem pMark_w1 {r:Rul}(h1:r.kind=1)(sp ar:Bool)(rw0:Int)(m:Mrk):(pMark r sp ar rw0 m).w=max r.lo (min r.hi (W (m.w+chgM r (jV r m) sp ar))):=by
 rw[gQ (r:=r) (spike:=sp) (arrived:=ar) (rw0:=rw0) (m0:=m) rfl rfl (if_pos h1),finM_w];rfl
theorem rul_mem {x:Lnt}(hx:NetOK x){i:Nat}(hi:i∈zD x.pl):x.rul i∈x.rs:=by
 obtain⟨h1,h2⟩:=plIdx_iff.1 hi
 have hg:x.pl.getD i (-1)=x.pl[i]:=by simp[List.getD_eq_getElem?_getD,h1]
 have h3:=hx.p1 i h1
 rw[hg]at h2
 have hk:x.pl[i].toNat<x.rs.length:=by omega
 have:x.rul i=x.rs[x.pl[i].toNat]:=by unfold Lnt.rul;rw[hg];simp[List.getD_eq_getElem?_getD,hk]
 rw[this];exact List.getElem_mem hk
theorem tdiv_bnd {a k:Int}(h0:0≤k)(h1 : -k≤a)(h2:a≤k) : -k≤a.tdiv 256∧a.tdiv 256≤k:=by
 rcases Int.le_total 0 a with h|h
 ·rw[Int.tdiv_eq_ediv_of_nonneg h];omega
 ·have:a.tdiv 256 = -((-a) / 256):=by
   rw[←Int.tdiv_eq_ediv_of_nonneg (by omega),Int.neg_tdiv,Int.neg_neg]
  rw[this];omega
theorem pMark_w2 {r:Rul}(h1:r.kind≠1)(sp ar:Bool)(m:Mrk)(hw : -255≤m.w∧m.w≤255) :∃E:Int,-65535≤E∧E≤65535 ∧ ∀q:Int,-128≤q→q≤128→(pMark r sp ar q m).w=max r.lo (min r.hi (m.w+(q*E).tdiv 256)):=by
 refine⟨max (-65535) (min 65535 (W ((jV r m).e+chgM r (jV r m) sp ar))),by omega,by omega,fun q h2 h3=> ?_⟩
 rw[gQ (r:=r) (spike:=sp) (arrived:=ar) (rw0:=q) (m0:=m) rfl rfl (if_neg h1),finM_w]
 show max r.lo (min r.hi (W (m.w+W ((W (q*_)).tdiv 256))))=_
 have hE : -65535≤max (-65535) (min 65535 (W ((jV r m).e+chgM r (jV r m) sp ar)))∧max (-65535) (min 65535 (W ((jV r m).e+chgM r (jV r m) sp ar)))≤65535:=by omega
 generalize max (-65535) (min 65535 (W ((jV r m).e+chgM r (jV r m) sp ar)))=E at hE
 have hb : -8388480≤q*E∧q*E≤8388480:=by
  have h4:q*E≤128*65535 ∧ -(128*65535)≤q*E:=by
   rcases Int.le_total 0 q with hq|hq
   ·constructor
    ·exact Int.le_trans (Int.mul_le_mul_of_nonneg_left hE.2 hq) (Int.mul_le_mul_of_nonneg_right h3 (by decide))
    ·have h5:q*(-65535)≤q*E:=Int.mul_le_mul_of_nonneg_left hE.1 hq
     omega
   ·constructor
    ·have h5:q*E≤q*(-65535):=Int.mul_le_mul_of_nonpos_left hq hE.1
     omega
    ·have h5:q*65535≤q*E:=Int.mul_le_mul_of_nonpos_left hq hE.2
     omega
  omega
 have ht:=tdiv_bnd (k:=8388480) (by decide) hb.1 hb.2
 have e1:W (q*E)=q*E:=zL (by omega) (by omega)
 have e2:W ((q*E).tdiv 256)=(q*E).tdiv 256:=zL (by omega) (by omega)
 have e3:W (m.w+(q*E).tdiv 256)=m.w+(q*E).tdiv 256:=zL (by omega) (by omega)
 rw[e1,e2,e3]
theorem now_get {x:Lnt}{s:Lst}(h:LInv x s){i:Nat}(hi:i<x.n.S.length):(nowL x.n.S s.m).getD i zC={ x.n.S.getD i zC with w:=wAt s.m i }:=by
 unfold nowL
 rw[nowY_get,if_pos ⟨by rw[h.lm];exact hi,hi⟩];rfl
theorem now_len (x:Lnt)(s:Lst):(nowL x.n.S s.m).length=x.n.S.length:=wC ..
end Go.Proofs.Ytnnlpdgnlccbjaa
namespace Go.Sx
theorem Run.appendC {c:Cx}(hc:c.ok){T:List (Nat×SV)}{M:List (Nat×SObj)}{n:Nat}{D:List Deferred}{ops:Array Oper}{i:Nat}{r:List Nat}{k:List Item}{R:Ending→World→Prop}{o:Oper}{x y:Operand}{t:TypeId}
  (ho:get ops.toList i=some o) (hop:o.op = .call { callee:=.builtin .append,args:= #[x,y],argTypes:= #[t,t] }) (hw:zQ ops.toList (look T) o=some true) (hd:okD c.fn.ntmps o.dst=true)
  {j e:Nat} {te:TypeId} (hx:ev (look T) x=some (.slc j 0 0 0)) (hj:look M j=some (.cells [] te))
  {q len:Nat} {vs:List Value} (hy:ev (look T) y=some (.opq q)) (hq :∀ ρ w,WI c.w0 c.L ρ (look M) (· < n) w→RowsAt w ((SV.opq q).conc ρ) e len vs) (hone' :∀u∈vs,u.oneCell'=true)
  {ti tie:TI} {bytes:Nat} (hti:look c.tab t=some ti) (hsh:ti.sh = .slc te e bytes) (hte:look c.tab te=some tie) (hz:tie.zero.length=e) (he:0<e)
  (hfit:len*bytes≤140737488355328∧len<9223372036854775808) (M':List (Nat×SObj)) (hM':AllP (fun p=>look M p.1=some p.2∧p.1≠j) M')
  (h:Run c ⟨z5 T o.dst (.opq n),(n,.row e len (vs.map .v) te)::M',n+1,D,.inRegion ops r::k⟩ R):Run c ⟨T,M,n,D,.inRegion ops (i::r)::k⟩ R:=by
 refine⟨fun ρ a w hi=> ?_⟩
 rw[q8,Array.getElem?_toList]at ho
 refine TW.op ho (zI hi.tm hw) ?_
 obtain⟨h1,_⟩:=qO hi.tm hx
 obtain⟨h2,_⟩:=qO hi.tm hy
 have hti:=Tab.ok_look hc.tab hti
 have hte:=Tab.ok_look hc.tab hte
 obtain⟨d,hd1,hd2⟩:=hti.desc
 obtain⟨inf,rfl,g2,g3,g4⟩:=sh_desc.2.2.2.2.1 te e bytes (hd2.trans hsh)
 obtain⟨inf',z,i1,_,i3,i4⟩:=hte.infos
 rw[g2]at i1
 obtain rfl:=Option.some.inj i1
 have hzs:z.cells.size=e:=by rw[←hz,←i4];simp
 obtain⟨hSj,hscj,h0,hcb⟩:=hi.wi.mem j _ hj
 have hsub :∀kk oo,look M' kk=some oo→look M kk=some oo:=fun kk oo hk=>(hM'.mem _ (qF hk)).1
 have hown:w.ownsRow 0 te e (.slice (some ⟨ρ.s j,0,none⟩) 0 0) 0 []:=
  ⟨by simp,.inr ⟨ρ.s j,0,#[],rfl,Nat.zero_le _,hcb,Nat.le_refl _,Nat.zero_le _,by simp,by simp⟩⟩
 have hx1:a.eval x = .slice (some ⟨ρ.s j,0,none⟩) 0 0:=by rw[h1];simp only[SV.conc,h0,Nat.add_zero]
 obtain⟨hvl,p,cap,hv,hcap,hp⟩:=hq ρ w hi.wi
 rw[hv]at h2
 have fin :∀v' w' row,(execOp a.eval o).run c.P w = .ok (.value v') w'→w'.ownsRow 0 te e v' len vs→w.grownBy w' row→(row=none∨row=some (ρ.s j))→(∀g,v'.ownBlock=some g→row=some g∨w.heap.size≤g) →
   Oc c.P a o w fun v w'=>TW c.P c.f c.rr (a.put o.dst v) (.inRegion ops r::k) w' R:=by
  intro v' w' row hrun r2 r3 r4 r5
  rw[←zN ρ vs]at r2
  obtain⟨hW',hag⟩:=hi.wi.rowTo hsub (i:=n) (Nat.lt_irrefl n) (xs:=vs.map .v) (t:=te) (e:=e) (n:=len) r3 (fun b hb=>by
   rcases r4 with r4|r4
   ·rw[r4]at hb;cases hb
   ·rw[r4]at hb
    obtain rfl:=Option.some.inj hb
    exact⟨fun kk oo hk ck=>hi.wi.dist kk j oo _ (hsub kk oo hk) hj (hM'.mem _ (qF hk)).2 ck trivial,hi.wi.new j _ hj trivial⟩) r5 r2 (qL _ vs)
  refine Oc.value hrun ?_
  have hW2:WI c.w0 c.L (ρ.bindV n v') (look ((n,.row e len (vs.map .v) te)::M')) (· < n+1) w':=by
   rw[qX];exact hW'.mono fun q hq=>by have hq:q<n∨q=n:=hq;omega
  have hinv:=hi.put (ρ':=ρ.bindV n v') hd hag (Nat.le_succ n) (v:=.opq n) (Nat.lt_succ_self n) hW2 (.inRegion ops r::k)
  rw[xA r2]at hinv
  exact h.go _ _ w' hinv
 cases p with
 |none=>
  have hl0:len=0:=by
   rcases hp with hp|⟨_,_,hp,_⟩
   ·exact hp
   ·cases hp
  subst hl0
  obtain rfl:vs=[]:=List.length_eq_zero_iff.1 (by simpa using hvl)
  have hrun:(execOp a.eval o).run c.P w = .ok (.value (.slice (some ⟨ρ.s j,0,none⟩) 0 0)) w:=by
   simp[execOp,hop,resolve,invoke,builtin,hx1,h2,tF w hd1 g2 _ 0 0 cap (Nat.le_refl 0)]
  exact fin _ w (some (ρ.s j)) hrun hown ⟨rfl,rfl,rfl,Nat.le_refl _,fun _ _ _=>rfl⟩ (.inr rfl) (fun g hg=>.inl hg)
 |some ad=>
  have hcell :∀jj u,vs[jj]? = some u→w.cell? (ad.add jj)=some u:=fun jj u hu=>by
   rcases hp with hp|⟨blk,off,hp,_,hh⟩
   ·subst hp
    obtain rfl:vs=[]:=List.length_eq_zero_iff.1 (by simpa using hvl)
    cases hu
   ·obtain rfl:=Option.some.inj hp
    rw[zV];exact hh jj u hu
  obtain⟨v',w',row,r1,r2,r3,r4,r5⟩:=xS (P:=c.P) w t o.type te inf z e hd1 g2 i3 g3 hzs he _ 0 _ hown ad len cap vs hvl hcell hone' (by simp only[maxLen];omega) (by rw[g4,Nat.zero_add];exact hfit.1)
  rw[Nat.zero_add,List.nil_append]at r2
  have hrun:(execOp a.eval o).run c.P w = .ok (.value v') w':=by
   simp[execOp,hop,resolve,invoke,builtin,hx1,h2,r1]
  exact fin v' w' row hrun r2 r3 (r4.imp id fun h=>h) r5
end Go.Sx
namespace Go.Proofs.Ytnnlpdgnlccbjaa
open Go.Sx
set_option maxRecDepth 100000
set_option maxHeartbeats 8000000
theorem ruls_v (l:List Rul):l.flatMap Rul.cells=(l.flatMap Rul.vals).map .v:=by
 induction l with
 |nil=>rfl
 |cons a l ih=>rw[List.flatMap_cons,List.flatMap_cons,List.map_append,ih];rfl
theorem Rul.clen (r:Rul):r.cells.length=10:=rfl
theorem scs_ruls (S:Nat→Prop)(l:List Rul):SV.scs S (l.flatMap Rul.cells):=by rw[ruls_v];exact qL _ _
section
variable {tab:Tab} {pf:PF} {T:Tm} {M:Mem} {n:Nat} {t:TypeId} {x y:Operand} {ti:TI} {j e m:Nat} {o:SObj} {vs:List Value}
end
end Go.Proofs.Ytnnlpdgnlccbjaa
namespace Go.Proofs.Ytnnlpdgnlccbjaa
open Go.Sx
set_option maxRecDepth 100000
set_option maxHeartbeats 2000000
theorem arrB_fr (sm:Nat→List Int)(t:Int)(a b c d a2 b2:Int):arrB sm t ⟨c,a,b,d⟩=arrB sm t ⟨c,a2,b2,d⟩:=rfl
theorem mem_addS {l:List Int}{a c:Int}:c∈addS l a↔c∈l∨c=a:=by
 unfold addS
 split
 ·rename_i h
  constructor
  ·exact .inl
  ·rintro(h1|rfl)
   ·exact h1
   ·exact h
 ·simp
theorem mem_sendL {inp:List Int}(hi :∀k∈inp,0≤k∧k≤1000000) :∀{sp:List Int} {c:Int},c∈x9 sp inp↔c∈sp ∨ ∃k∈inp,c = -1-k:=by
 induction inp with
 |nil=>intro sp c;simp[x9]
 |cons a inp ih=>
  intro sp c
  have ha:=hi a (by simp)
  have e:x9 sp (a::inp)=x9 (addS sp (W (-1-a))) inp:=rfl
  rw[e,ih (fun k hk=>hi k (by simp[hk])),mem_addS,zL (by omega) (by omega)]
  simp only[List.mem_cons,exists_eq_or_imp,or_assoc]
end Go.Proofs.Ytnnlpdgnlccbjaa
namespace Go.Sx
set_option maxRecDepth 100000
set_option maxHeartbeats 2000000
open Go
theorem WI.enterA {w0 w:World}{L:List (Nat×Nat)}{ρ:Env}{M:List (Nat×SObj)}{n:Nat}(hW:WI w0 L ρ (look M) (· < n) w)(r:Nat→Nat)(Mc:List (Nat×SObj))(B:Nat)(is:List Nat)(keys:List Nat)(hkeys:Mc.map (·.1)=keys)(hinj :∀i∈keys,∀j∈keys,i≠j→r i≠r j)
  (hMc:AllP (fun x=>x.1<B∧x.2.sc (· < B)∧(∃o,look M (r x.1)=some o∧Conv o (x.2.ren r))∧(x.2.wnd=true∨x.1∈is)∧(x.2.wnd=true→x.1∉is)) Mc) (his :∀i∈is,i<B ∧ ∃o,look Mc i=some o) :
  ∃L',(∀p∈L',p.1∈is∧p.2=ρ.s (r p.1) ∧ ∃o,look M (r p.1)=some o∧o.occ ρ (r p.1))∧WI w L' (ρ.ren r) (look Mc) (· < B) w:=by
 classical
 let L':List (Nat×Nat):=(is.filter fun i=>decide (∃o,look M (r i)=some o∧o.occ ρ (r i))).map fun i=>(i,ρ.s (r i))
 have hL' :∀p∈L',p.1∈is∧p.2=ρ.s (r p.1) ∧ ∃o,look M (r p.1)=some o∧o.occ ρ (r p.1):=by
  intro p hp
  obtain⟨i,hi,rfl⟩:=List.mem_map.1 hp
  obtain⟨h1,h2⟩:=List.mem_filter.1 hi
  exact⟨h1,rfl,of_decide_eq_true h2⟩
 have hk :∀x∈Mc,x.1∈keys:=fun x hx=>by rw[←hkeys];exact List.mem_map.2 ⟨x,hx,rfl⟩
 refine⟨L',hL',?_⟩
 refine hW.again ((Ext.refl w).modF fun _=>False) r L' Mc B (fun p hp=> ?_) (fun x hx=> ?_) (fun x hx y hy h=>hinj _ (hk x hx) _ (hk y hy) h)
 ·obtain⟨h1,h2,h3⟩:=hL' p hp
  obtain⟨h4,o,h5⟩:=his p.1 h1
  exact⟨h4,h2,⟨_,qF h5,rfl⟩,h3⟩
 ·obtain⟨h1,h2,⟨o,h3,h4⟩,h5,h6⟩:=hMc.mem x hx
  refine⟨h1,h2,fun ho=> ?_,o,h3,h4,?_,fun hwd p hp he=>h6 hwd (by rw[←he];exact(hL' p hp).1)⟩
  ·rcases h5 with h5|h5
   ·exfalso
    cases hx2:x.2<;>rw[hx2]at h5 ho<;>first|cases h5;done|exact ho.elim
   ·refine⟨(x.1,ρ.s (r x.1)),List.mem_map.2 ⟨x.1,List.mem_filter.2 ⟨h5,decide_eq_true ⟨o,h3,?_⟩⟩,rfl⟩,rfl⟩
    rcases h4 with h4|⟨e,m,t,vs,_,_,h4⟩|⟨pk,nn,l,_,h4⟩
    ·rw[←h4];exact occ_ren.2 ho
    ·have:=(occ_ren (ρ:=ρ) (r:=r) (i:=x.1) (o:=x.2)).2 ho
     rw[h4]at this;exact this.elim
    ·have:=(occ_ren (ρ:=ρ) (r:=r) (i:=x.1) (o:=x.2)).2 ho
     rw[h4]at this;exact this.elim
  ·cases o<;>simp[SObj.away]
theorem Run.callA {c:Cx}{T:List (Nat×SV)}{M:List (Nat×SObj)}{n:Nat}{D:List Deferred}{ops:Array Oper}{i:Nat}{r:List Nat}{k:List Item}{R:Ending→World→Prop}{o:Oper}{f:Operand}{args:Array Operand}{ts:Array TypeId}
  {fv:SV} {g:FuncId} {caps caps2 vs:List SV} {Mc:List (Nat×SObj)} {B:Nat} {is:List Nat} {v:SV} {M1:List (Nat×SObj)} {n1:Nat} (hspec:BSpec c.P g (vs++caps) Mc B is v M1 n1) (hg:zU c.P g)
  (ho:get ops.toList i=some o) (hop:o.op = .call { callee:=.value f,args:=args,argTypes:=ts }) (hw:zQ ops.toList (look T) o=some true) (hd:okD c.fn.ntmps o.dst=true)
  (hf:ev (look T) f=some fv) (hfv:zW fv=some (g,caps2)) (vs2:List SV) (hvs:evs (look T) args.toList=some vs2) (rn:Nat→Nat) (hvr:SV.rens rn (vs++caps)=vs2++caps2) (hr :∀i,i<B→rn i<n) (keys:List Nat) (hkeys:Mc.map (·.1)=keys) (hinj :∀i∈keys,∀j∈keys,i≠j→rn i≠rn j) (hB1:B≤n1)
  (hMc:AllP (fun x=>x.1<B∧x.2.sc (· < B)∧(∃o,look M (rn x.1)=some o∧Conv o (x.2.ren rn))∧(x.2.wnd=true∨x.1∈is)∧(x.2.wnd=true→x.1∉is)) Mc) (his :∀i∈is,i<B ∧ ∃o,look Mc i=some o)
  (v2:SV) (M2:List (Nat×SObj)) (n2:Nat) (hv2:v2=v.ren (shR rn B n)) (hn2:n2=n+(n1-B)) (hM2:AllP (fun x=>(look M x.1=some x.2 ∧ ∀i∈is,rn i≠x.1) ∨ ∃i o,shR rn B n i=x.1∧look M1 i=some o∧x.2=o.ren (shR rn B n)∧o.wnd=false) M2)
  (h:Run c ⟨z5 T o.dst v2,M2,n2,D,.inRegion ops r::k⟩ R):Run c ⟨T,M,n,D,.inRegion ops (i::r)::k⟩ R:=by
 subst hv2 hn2
 refine Run.rN ho hop hw hd hf hfv hvs hg (fun v' M' n'=>v'=v.ren (shR rn B n)∧M'=M2∧n'=n+(n1-B)) (fun ρ w _ hW=> ?_) (fun v' M' n' hp=> ?_)
 ·obtain⟨L',hL',hWc⟩:=hW.enterA rn Mc B is keys hkeys hinj hMc his
  have hcall:=hspec (ρ.ren rn) w L' hWc fun p hp=>(hL' p hp).1
  rw[←kD,hvr]at hcall
  refine hcall.mono fun e w' ⟨ρ',he,hv,hag,hW'⟩=> ?_
  obtain⟨hW2,hag2⟩:=hW.mergeR hr hW' hB1 hag (fun p hp=>⟨(his _ (hL' p hp).1).1,(hL' p hp).2.2⟩) M2 (fun x hx=>by
   rcases hM2.mem x hx with⟨h1,h2⟩|h1
   ·exact .inl ⟨h1,fun p hp=>h2 _ (hL' p hp).1⟩
   ·exact .inr h1)
  refine⟨ρ.join B n ρ',_,_,_,?_,hag2,by omega,?_,hW2,rfl,rfl,rfl⟩
  ·rw[he,kC,Env.rV hr hag]
  ·refine SV.sc_ren (fun j (hj:j<n1)=> ?_) v hv
   show shR rn B n j<n+(n1-B)
   rcases Nat.lt_or_ge j B with h|h
   ·rw[shR_lt h];have:=hr j h;omega
   ·rw[shR_ge h];omega
 ·obtain⟨rfl,rfl,rfl⟩:=hp;exact h
set_option maxHeartbeats 4000000
set_option maxHeartbeats 2000000
set_option maxHeartbeats 4000000
structure LinExt (ops:Array Oper) (l:List Nat):Prop where
 nd:l.Nodup
 mem :∀i,i∈l↔i<ops.size
 dep :∀p i r,l=p++i::r → ∀o e,ops[i]? = some o→e∈o.after→Region.binds .any e=true→e.on∈p
theorem ready_some {ops:Array Oper}{listed:Array Bool}(hlow :∀i o e,ops[i]? = some o→e∈o.after→Region.binds .any e=true→e.on<i) :
  ∀i,i<ops.size→listed.getD i true=false→listed.size=ops.size→Region.ready .any ops listed≠[]:=by
 intro i
 induction i using Nat.strongRecOn with
 |ind i ih=>
  intro h1 h2 hs
  by_cases hd:Due ops listed i
  ·exact fun h=>by have:=mem_ready.2 ⟨h1,h2,hd⟩;rw[h]at this;cases this
  ·refine Classical.byContradiction fun hcon=>hd fun o e ho he hb=> ?_
   have hlt:=hlow i o e ho he hb
   have hl:e.on<listed.size:=by omega
   cases hg:listed.getD e.on false with
   |true=>rfl
   |false=>
    refine absurd (fun h=>hcon fun h'=>h h') (fun h=>h (ih e.on hlt (by omega) ?_ hs))
    simp only[Array.getD_eq_getD_getElem?,Array.getElem?_eq_getElem hl,Option.getD_some]at hg ⊢
    exact hg
theorem go_ext {ops:Array Oper}(hlow :∀i o e,ops[i]? = some o→e∈o.after→Region.binds .any e=true→e.on<i) :∀(fuel t:Nat) (listed:Array Bool) (u:List Nat),listed.size=ops.size→(∀i,i<ops.size→listed.getD i true=false→i∈u)→u.length≤fuel →
  (Region.linearise.go .any ops fuel t listed []).Nodup∧(∀i,i∈Region.linearise.go .any ops fuel t listed []↔i<ops.size∧listed.getD i true=false) ∧
  (∀p i r,Region.linearise.go .any ops fuel t listed []=p++i::r → ∀o e,ops[i]? = some o→e∈o.after→Region.binds .any e=true→e.on∈p∨listed.getD e.on false=true)
 | 0,t,listed,u,hs,hu,hf=>by
  have hnil:Region.linearise.go .any ops 0 t listed []=[]:=rfl
  rw[hnil]
  refine⟨List.nodup_nil,fun i=>⟨fun h=>(by cases h),fun⟨h1,h2⟩=> ?_⟩,fun p i r h=>by simp at h⟩
  have:=hu i h1 h2
  rw[List.length_eq_zero_iff.1 (Nat.le_zero.1 hf)]at this;exact this
 |fuel+1,t,listed,u,hs,hu,hf=>by
  rw[vO]
  by_cases hr:Region.ready .any ops listed=[]
  ·rw[hr]
   show([]:List Nat).Nodup∧_
   refine⟨List.nodup_nil,fun i=>⟨fun h=>(by cases h),fun⟨h1,h2⟩=> ?_⟩,fun p i r h=> ?_⟩
   ·exact absurd hr (ready_some hlow i h1 h2 hs)
   ·have h:([]:List Nat)=p++i::r:=h
    simp at h
  ·obtain⟨i,hi,hir⟩:=kQ (ops:=ops) (listed:=listed) t hr
   obtain⟨h1,h2,h3⟩:=mem_ready.1 hir
   rw[hi]
   have ih:=go_ext hlow fuel (t / (Region.ready .any ops listed).length) (listed.setIfInBounds i true) (u.erase i) (by simpa using hs) (fun j hj hj2=>by
    rw[yW]at hj2
    split at hj2
    ·cases hj2
    ·rename_i hne
     have hji:j≠i:=fun e=>hne ⟨e.symm,by omega⟩
     exact(List.mem_erase_of_ne hji).2 (hu j hj hj2)) (by have:=List.length_erase_of_mem (hu i h1 h2);omega)
   obtain⟨g1,g2,g3⟩:=ih
   show(i::_).Nodup∧_
   refine⟨List.nodup_cons.2 ⟨fun h=> ?_,g1⟩,fun j=> ?_,fun p j r hp o e ho he hb=> ?_⟩
   ·have:=((g2 i).1 h).2
    rw[yW,if_pos ⟨rfl,by omega⟩]at this;cases this
   ·rw[List.mem_cons,g2,yW]
    constructor
    ·rintro(rfl|⟨a,b⟩)
     ·exact⟨h1,h2⟩
     ·split at b
      ·cases b
      ·exact⟨a,b⟩
    ·rintro⟨a,b⟩
     by_cases e:j=i
     ·exact .inl e
     ·refine .inr ⟨a,?_⟩
      rw[if_neg (fun h=>e h.1.symm)];exact b
   ·dsimp only at hp
    cases p with
    |nil=>
     simp only[List.nil_append,List.cons.injEq]at hp
     obtain⟨rfl,_⟩:=hp
     exact .inr (h3 o e ho he hb)
    |cons a p=>
     simp only[List.cons_append,List.cons.injEq]at hp
     obtain⟨rfl,hp⟩:=hp
     rcases g3 p j r hp o e ho he hb with h|h
     ·exact .inl (List.mem_cons_of_mem _ h)
     ·rw[yW]at h
      split at h
      ·rename_i hh;exact .inl (by rw[hh.1];exact List.mem_cons_self ..)
      ·exact .inr h
theorem LinGo.ext {ops:Array Oper}{l:List Nat}(h:LinGo ops 0 l)(hlow:lowB 0 ops.toList=true):LinExt ops l:=by
 obtain⟨fuel,t,listed,rfl,hs,hU,hD,hf⟩:=h
 have hno :∀i,listed.getD i false≠true:=fun i hi=>by
  rcases Nat.lt_or_ge i ops.size with hl|hl
  ·have:=(hU i hl).2 (Nat.zero_le _)
   have:=(kN this).2;simp_all
  ·simp[Array.getD_eq_getD_getElem?,Array.getElem?_eq_none (show listed.size≤i by omega)]at hi
 obtain⟨h1,h2,h3⟩:=go_ext (fun i o e=>lowB_ok ops.toList 0 hlow (by simp) i o e (Nat.zero_le _)) fuel t listed (List.range ops.size) hs (fun i hi _=>List.mem_range.2 hi) (by simpa using hf)
 refine⟨h1,fun i=>⟨fun h=>((h2 i).1 h).1,fun h=>(h2 i).2 ⟨h,(hU i h).2 (Nat.zero_le _)⟩⟩,fun p i r hp o e ho he hb=> ?_⟩
 rcases h3 p i r hp o e ho he hb with h|h
 ·exact h
 ·exact absurd h (hno _)
theorem LinExt.tp {ops:Array Oper}{l:List Nat}(h:LinExt ops l){i j:Nat}(ht:TP ops j i) :∀p r,l=p++i::r→j∈p:=by
 induction ht with
 |one ho he hb hj=>intro p r hp;rw[←hj];exact h.dep p _ r hp _ _ ho he hb
 |more _ ho he hb hk ih=>
  intro p r hp
  have hm:=h.dep p _ r hp _ _ ho he hb
  rw[hk]at hm
  obtain⟨p1,p2,hpp⟩:=List.append_of_mem hm
  have:=ih p1 (p2++_::r) (by rw[hp,hpp,List.append_assoc,List.cons_append])
  rw[hpp]
  exact List.mem_append_left _ this
structure PartOf (ops:Array Oper) (p:List Nat):Prop where
 nd:p.Nodup
 lt :∀i∈p,i<ops.size
 tp :∀p1 i r,p=p1++i::r → ∀j,TP ops j i→j∈p→j∈p1
theorem LinExt.split {ops:Array Oper}{l:List Nat}(h:LinExt ops l)(s:Nat)(hs:s<ops.size) :∃p r,l=p++s::r∧PartOf ops p∧PartOf ops r∧(∀i,i<ops.size→i≠s→(i∈p∧i∉r)∨(i∉p∧i∈r))∧s∉p∧s∉r∧(∀j,TP ops j s→j∈p)∧(∀j,TP ops s j→j<ops.size→j∈r∧j∉p)∧(∀j i,TP ops j i→i∈p→j∈p):=by
 obtain⟨p,r,rfl⟩:=List.append_of_mem ((h.mem s).2 hs)
 have hnd:=h.nd
 rw[List.nodup_append]at hnd
 obtain⟨n1,n2,n3⟩:=hnd
 obtain⟨n4,n5⟩:=List.nodup_cons.1 n2
 have hsp:s∉p:=fun hp=>n3 s hp s (by simp) rfl
 have hmem :∀i,i∈p∨i=s∨i∈r↔i<ops.size:=fun i=>by rw[←h.mem i];simp
 refine⟨p,r,rfl,⟨n1,fun i hi=>(hmem i).1 (.inl hi),fun p1 i r1 hp j hj _=>h.tp hj p1 (r1++s::r) (by simp[hp])⟩,⟨n5,fun i hi=>(hmem i).1 (.inr (.inr hi)),fun p1 i r1 hp j hj hjr=> ?_⟩,fun i hi hne=> ?_,hsp,n4,fun j hj=>h.tp hj p r rfl,fun j hj hjl=> ?_,fun j i hj hi=> ?_⟩
 ·have:=h.tp hj (p++s::p1) r1 (by simp[hp])
  simp only[List.mem_append,List.mem_cons]at this
  rcases this with hh|rfl|hh
  ·exact absurd rfl (n3 j hh j (by simp[hjr]))
  ·exact absurd hjr n4
  ·exact hh
 ·rcases(hmem i).2 hi with hh|hh|hh
  ·exact .inl ⟨hh,fun hr=>n3 i hh i (by simp[hr]) rfl⟩
  ·exact absurd hh hne
  ·exact .inr ⟨fun hp=>n3 i hp i (by simp[hh]) rfl,hh⟩
 ·have hjp:j∉p:=fun hp=>by
   obtain⟨p1,p2,rfl⟩:=List.append_of_mem hp
   have:=h.tp hj p1 (p2++s::r) (by simp)
   exact hsp (List.mem_append_left _ this)
  rcases(hmem j).2 hjl with hh|rfl|hh
  ·exact absurd hh hjp
  ·exact absurd (h.tp hj p r rfl) hsp
  ·exact⟨hh,hjp⟩
 ·obtain⟨p1,p2,rfl⟩:=List.append_of_mem hi
  exact List.mem_append_left _ (h.tp hj p1 (p2++s::r) (by simp))
theorem perm_run {c:Cx}(hc:c.ok){ops:Array Oper}{n0:Nat}{T':Tm}{M':Mem}{D:List Deferred}{R:Ending→World→Prop}{k:List Item}{q:List Nat}
  (hfin :∀ ρ a w,a.tmps.size=c.fn.ntmps→TmOk ρ T' (· < n0+ops.size) a→a.defers=D→WI c.w0 c.L ρ M' (· < n0+ops.size) w→TW c.P c.f c.rr a (.inRegion ops q::k) w R) :
  ∀(p:List Nat) (l:List (Tr×Option Eff)) (T:Tm) (M:Mem) (S:Nat→Prop) (ρ:Env) (a:Act) (w:World),p.Nodup→(∀i,i∈p ↔ ∃x∈l,x.1.i=i)→l.Pairwise (fun a b=>a.1.i≠b.1.i)→(∀x∈l,x.1.i<ops.size)→l.Pairwise (fun a b=>TP ops a.1.i b.1.i∨Apart a.1 b.1) →
   (∀p1 i r,p=p1++i::r → ∀j,TP ops j i→j∈p→j∈p1)→Runs c ops.toList n0 l T M T' M'→a.tmps.size=c.fn.ntmps→TmOk ρ T S a→a.defers=D→WI c.w0 c.L ρ M S w→(∀x,S x→x<n0+ops.size)→(∀x∈l,¬S (n0+x.1.i)) →
   TW c.P c.f c.rr a (.inRegion ops (p++q)::k) w R
 | [],l,T,M,S,ρ,a,w,_,hmem,_,_,_,_,hrun,hsz,hT,hdf,hW,hS,_=>by
  have hl:l=[]:=by
   cases l with
   |nil=>rfl
   |cons x l=>exact absurd ((hmem x.1.i).2 ⟨x,by simp,rfl⟩) (by simp)
  subst hl
  obtain⟨rfl,rfl⟩:=hrun
  exact hfin ρ a w hsz (hT.mono hS) hdf (hW.mono hS)
 |i::p,l,T,M,S,ρ,a,w,hnd,hmem,hdist,hlt,hap,hresp,hrun,hsz,hT,hdf,hW,hS,hfresh=>by
  obtain⟨⟨b,x⟩,hbl,hbi⟩:=(hmem i).1 (by simp)
  simp only at hbi
  subst hbi
  obtain⟨u,v,huv⟩:=List.append_of_mem hbl
  have hmem' :∀y,y∈l↔y=(b,x)∨y∈u++v:=by intro y;rw[huv];simp;constructor<;>(rintro(h|h|h)<;>simp[h])
  have hlt':b.i<ops.size:=hlt _ hbl
  rw[huv]at hrun hap hdist
  have hapart :∀y∈u,Apart y.1 b:=by
   intro y hy
   rcases(List.pairwise_append.1 hap).2.2 y hy (b,x) (by simp)with htp|h
   ·have hyp:y.1.i∈b.i::p:=(hmem y.1.i).2 ⟨y,(hmem' y).2 (.inr (by simp[hy])),rfl⟩
    have:=hresp [] b.i p rfl y.1.i htp hyp
    cases this
   ·exact h
  obtain⟨hstep,hrest⟩:=hrun.front hc.pf hapart
  have hbS :¬S (n0+b.i):=hfresh (b,x) hbl
  have hap':(u++v).Pairwise (fun a b=>TP ops a.1.i b.1.i∨Apart a.1 b.1):=by
   rw[List.pairwise_append]at hap ⊢
   exact⟨hap.1,(List.pairwise_cons.1 hap.2.1).2,fun y hy z hz=>hap.2.2 y hy z (by simp[hz])⟩
  have hdist':(u++v).Pairwise (fun a b=>a.1.i≠b.1.i):=by
   rw[List.pairwise_append]at hdist ⊢
   exact⟨hdist.1,(List.pairwise_cons.1 hdist.2.1).2,fun y hy z hz=>hdist.2.2 y hy z (by simp[hz])⟩
  have hne :∀y∈u++v,y.1.i≠b.i:=by
   intro y hy e
   rw[List.pairwise_append]at hdist
   rcases List.mem_append.1 hy with hy|hy
   ·exact hdist.2.2 y hy (b,x) (by simp) e
   ·exact(List.pairwise_cons.1 hdist.2.1).1 y hy e.symm
  have hnd':=List.nodup_cons.1 hnd
  have hmem2 :∀j,j∈p ↔ ∃y∈u++v,y.1.i=j:=by
   intro j
   constructor
   ·intro hj
    obtain⟨y,hy,hyj⟩:=(hmem j).1 (by simp[hj])
    rcases(hmem' y).1 hy with rfl|hy
    ·exact absurd (hyj▸hj) hnd'.1
    ·exact⟨y,hy,hyj⟩
   ·rintro⟨y,hy,rfl⟩
    have:=(hmem y.1.i).2 ⟨y,(hmem' y).2 (.inr hy),rfl⟩
    rcases List.mem_cons.1 this with h|h
    ·exact absurd h (hne y hy)
    ·exact h
  have hresp' :∀p1 i r,p=p1++i::r → ∀j,TP ops j i→j∈p→j∈p1:=by
   intro p1 i r hp j hj hjp
   have:=hresp (b.i::p1) i r (by simp[hp]) j hj (by simp[hjp])
   rcases List.mem_cons.1 this with rfl|h
   ·exact absurd hjp hnd'.1
   ·exact h
  obtain⟨o,s1,s2,s3,s4,s5⟩:=hstep
  rw[q8,Array.getElem?_toList]at s1
  cases x with
  |none=>
   refine TW.pass s1 (zI hT s5.1) ?_
   refine perm_run hc hfin p (u++v) _ _ S ρ _ w hnd'.2 hmem2 hdist' (fun y hy=>hlt y ((hmem' y).2 (.inr hy))) hap' hresp' hrest (by rw[Act.put_size];exact hsz) ?_ (by rw[Act.put_defers];exact hdf) hW hS (fun y hy=>hfresh y ((hmem' y).2 (.inr hy)))
   rw[s3]
   exact hT.updD hsz (Env.agree.refl S ρ) (fun _ h=>h) s2 (v:=.v undef) trivial
  |some e=>
   obtain⟨g1,g2,g3,g4,g5⟩:=s5
   refine TW.op s1 (zI hT g1) ?_
   refine(opF_ok hc.tab hc.pf hT hW hbS g2 g3).mono fun v' w' hp=> ?_
   obtain⟨ρ',r1,rfl,r3,r4⟩:=hp
   have hdom :∀j,S j→e.dom S (n0+b.i) j:=fun j hj=>by cases e<;>first|exact hj|exact .inl hj
   have hdom' :∀j,e.dom S (n0+b.i) j→S j∨j=n0+b.i:=fun j hj=>by cases e<;>first|exact .inl hj|exact hj
   refine perm_run hc hfin p (u++v) _ _ (e.dom S (n0+b.i)) ρ' _ w' hnd'.2 hmem2 hdist' (fun y hy=>hlt y ((hmem' y).2 (.inr hy))) hap' hresp' hrest (by rw[Act.put_size];exact hsz) ?_ (by rw[Act.put_defers];exact hdf) r4 ?_ ?_
   ·rw[s3]
    exact hT.updD hsz r1 hdom s2 r3
   ·intro j hj
    rcases hdom' j hj with hj|rfl
    ·exact hS j hj
    ·omega
   ·intro y hy hj
    rcases hdom' _ hj with hj|hj
    ·exact hfresh y ((hmem' y).2 (.inr hy)) hj
    ·exact hne y hy (by omega)
def ndB:List Nat→Bool
 | []=>true
 |a::l=> !l.contains a&&ndB l
theorem ndB_ok :∀{l:List Nat},ndB l=true→l.Nodup
 | [],_=>List.nodup_nil
 |a::l,h=>by
  unfold ndB at h
  simp only[Bool.and_eq_true,Bool.not_eq_true']at h
  exact List.nodup_cons.2 ⟨by simpa using h.1,ndB_ok h.2⟩
theorem Run.s8 {c:Cx}(hc:c.ok){T:List (Nat×SV)}{M:List (Nat×SObj)}{n:Nat}{D:List Deferred}{ops:Array Oper}{p q:List Nat}{k:List Item}{R:Ending→World→Prop}(l l':List Nat)(hp:PartOf ops p)(hl:AllP (· ∈ p) l)(hl':AllP (· ∉ p) l')(hcov :∀i,i<ops.size→i∈l∨i∈l')(hnd:ndB l=true)
  (h:jP c ops.toList n False (fun T M tr=>pairsB (v6 ops.toList []) tr=true∧Run c ⟨T,M,n+jT ops.toList,D,.inRegion ops q::k⟩ R) l T M []) :
  Run c ⟨T,M,n,D,.inRegion ops (p++q)::k⟩ R:=by
 rcases u4 _ _ _ _ h with h|⟨tr,T',M',h1,h2,h3,h4⟩
 ·exact h.elim
 simp only[List.nil_append]at h3
 rw[j6,Array.length_toList]at h4
 have hmk :∀k j,(jJ (v6 ops.toList []) k).testBit j=true→TP ops j k:=uG ops.toList [] (by simp) (by simp[jJ])
 have hmem :∀i,i∈p ↔ ∃x∈tr,x.1.i=i:=by
  intro i
  have e:(∃x∈tr,x.1.i=i)↔i∈l:=by rw[←h1];simp
  rw[e]
  constructor
  ·intro hi
   rcases hcov i (hp.lt i hi)with h|h
   ·exact h
   ·exact absurd hi (hl'.mem i h)
  ·exact fun hi=>hl.mem i hi
 refine⟨fun ρ a w hi=> ?_⟩
 refine perm_run hc (fun ρ a w q1 q2 q3 q4=>h4.go ρ a w ⟨q1,q2,q3,q4⟩) p tr _ _ _ ρ a w hp.nd hmem ?_ (fun x hx=>hp.lt _ ((hmem _).2 ⟨x,hx,rfl⟩)) (List.pairwise_map.1 (wM hmk h3)) hp.tp h2 hi.sz hi.tm hi.df hi.wi (fun x hx=> ?_) (fun x _=> ?_)
 ·have:(tr.map (·.1.i)).Pairwise (· ≠ ·):=by rw[h1];exact ndB_ok hnd
  exact List.pairwise_map.1 this
 ·have:x<n:=hx
  show x<n+ops.size
  omega
 ·intro hlt
  have:n+x.1.i<n:=hlt
  omega
theorem Run.drawE {c:Cx}(hc:c.ok){T:List (Nat×SV)}{M:List (Nat×SObj)}{n:Nat}{D:List Deferred}{id:Nat}{ops:Array Oper}{k:List Item}{R:Ending→World→Prop}(hlow:lowB 0 ops.toList=true)
  (h :∀l,LinExt ops l→Run c ⟨T,M,n,D,.inRegion ops l::k⟩ R):Run c ⟨T,M,n,D,.code (.region id ops true)::k⟩ R:=Run.draw0 hc fun l hl=>h l (hl.ext hlow)
theorem jS {ops:Array Oper}{j i:Nat}(h:(jJ (v6 ops.toList []) i).testBit j=true):TP ops j i:=uG ops.toList [] (by simp) (by simp[jJ]) i j h
theorem Run.opX {c:Cx}{T:List (Nat×SV)}{M:List (Nat×SObj)}{n:Nat}{D:List Deferred}{ops:Array Oper}{i:Nat}{r:List Nat}{k:List Item}{R:Ending→World→Prop}{o:Oper}(ho:get ops.toList i=some o)(hw:zQ ops.toList (look T) o=some true)(hd:okD c.fn.ntmps o.dst=true)
  (h :∀ ρ a w,WI c.w0 c.L ρ (look M) (· < n) w→TmOk ρ (look T) (· < n) a → ∃v w',(execOp a.eval o).run c.P w = .ok (.value v) w' ∧ ∃u T' ρ' M' n' L',v=u.conc ρ'∧u.sc (· < n')∧(∀t y',look T' t=some y' → ∃y,look T t=some y∧y.conc ρ=y'.conc ρ'∧y'.sc (· < n'))∧WI w' L' ρ' (look M') (· < n') w' ∧
   Run { c with w0:=w',L:=L' } ⟨z5 T' o.dst u,M',n',D,.inRegion ops r::k⟩ R):Run c ⟨T,M,n,D,.inRegion ops (i::r)::k⟩ R:=by
 refine⟨fun ρ a w hi=> ?_⟩
 rw[q8,Array.getElem?_toList]at ho
 refine TW.op ho (zI hi.tm hw) ?_
 obtain⟨v,w',hx,u,T',ρ',M',n',L',hv,hu,hT,hW,hR⟩:=h ρ a w hi.wi hi.tm
 subst hv
 refine Oc.value hx ?_
 have hi':Inv { c with w0:=w',L:=L' } ρ' ⟨T',M',n',D,.inRegion ops (i::r)::k⟩ a w':=by
  refine⟨hi.sz,fun t v ht=> ?_,hi.df,hW⟩
  obtain⟨u,h1,h2,h3⟩:=hT t v ht
  obtain⟨g1,g2,_⟩:=hi.tm t _ h1
  exact⟨g1,by rw[←h2];exact g2,h3⟩
 exact hR.go ρ' _ w' (hi'.put hd (Env.agree.refl _ _) (Nat.le_refl _) hu hW _)
theorem gP {w w':World}{b e n:Nat}{t:TypeId}{v:Value}{xs:List Value}(h:w.ownsRow b t e v n xs)(hk :∀g,v.ownBlock=some g→w'.heap[g]? = w.heap[g]?):w'.ownsRow b t e v n xs:=by
 refine⟨h.1,h.2.imp id fun⟨g,cap,cur,h1,h2,h3,h4⟩=>⟨g,cap,cur,h1,h2,?_,h4⟩⟩
 subst h1
 rw[hk g rfl];exact h3
theorem ownsRow_up {w:World}{b b' e n:Nat}{t:TypeId}{v:Value}{xs:List Value}(h:w.ownsRow b t e v n xs)(hk :∀g,v.ownBlock=some g→b'≤g):w.ownsRow b' t e v n xs:=
 ⟨h.1,h.2.imp id fun⟨g,cap,cur,h1,h2,h3⟩=>⟨g,cap,cur,h1,hk g (by rw[h1];rfl),h3⟩⟩
theorem Run.rP {c:Cx}(hc:c.ok){T:List (Nat×SV)}{M:List (Nat×SObj)}{n:Nat}{D:List Deferred}{ops:Array Oper}{i:Nat}{r:List Nat}{k:List Item}{R:Ending→World→Prop}{o:Oper}{x y:Operand}{t:TypeId}
  (ho:get ops.toList i=some o) (hop:o.op = .call { callee:=.builtin .append,args:= #[x,y],argTypes:= #[t,t] }) (hw:zQ ops.toList (look T) o=some true) (hd:okD c.fn.ntmps o.dst=true)
  {v:Value} {e m:Nat} {xs:List Value} {te:TypeId} (hx:ev (look T) x=some (.v v)) (hown:c.w0.ownsRow 0 te e v m xs) (hhid :∀g,v.ownBlock=some g → ∀p∈c.L,p.2≠g)
  {j2 off len cap:Nat} {ob:SObj} {cs:List SV} {news:List Value} (hy:ev (look T) y=some (.slc j2 off len cap)) (hj2:look M j2=some ob) (hl:ob.list=some cs) (hnews:j3 cs off (len*e)=some (news.map .v)) (hone:xP (news.map .v)=true)
  {ti tie:TI} {bytes:Nat} (hti:look c.tab t=some ti) (hsh:ti.sh = .slc te e bytes) (hte:look c.tab te=some tie) (hz:tie.zero.length=e) (he:0<e)
  (hfit:(m+len)*bytes≤140737488355328∧m+len<9223372036854775808) (is:List Nat) (M':List (Nat×SObj)) (his :∀i∈is,i<n ∧ ∃o,look M i=some o ∧ ∀ ρ w,o.holds c.w0 c.L ρ i w→o.occ ρ i)
  (hM' :∀x∈M',look M x.1=some x.2∧(x.1∈is ∨ ∃pl,x.2 = .pin pl)∧x.2.wnd=false)
  (h :∀v' w' L',w'.ownsRow 0 te e v' (m+len) (xs++news)→(∀g,g<c.w0.heap.size→v.ownBlock≠some g→(∀p∈c.L,p.2≠g)→w'.heap[g]? = c.w0.heap[g]?)→c.w0.heap.size≤w'.heap.size→w'.os=c.w0.os→w'.tape=c.w0.tape→w'.output=c.w0.output →
   (∀g,v'.ownBlock=some g→(v.ownBlock=some g∨c.w0.heap.size≤g) ∧ ∀p∈L',p.2≠g)→(∀p∈L',p.1∈is∧((∃q∈c.L,q.2=p.2)∨c.w0.heap.size≤p.2))→Run { c with w0:=w',L:=L' } ⟨z5 T o.dst (.v v'),M',n,D,.inRegion ops r::k⟩ R) :
  Run c ⟨T,M,n,D,.inRegion ops (i::r)::k⟩ R:=by
 refine Run.opX ho hw hd fun ρ a w hW hT=> ?_
 obtain⟨h1,_⟩:=qO hT hx
 obtain⟨h2,_⟩:=qO hT hy
 have hti:=Tab.ok_look hc.tab hti
 have hte:=Tab.ok_look hc.tab hte
 obtain⟨d,hd1,hd2⟩:=hti.desc
 obtain⟨inf,rfl,g2,g3,g4⟩:=sh_desc.2.2.2.2.1 te e bytes (hd2.trans hsh)
 obtain⟨inf',z,i1,_,i3,i4⟩:=hte.infos
 rw[g2]at i1
 obtain rfl:=Option.some.inj i1
 have hzs:z.cells.size=e:=by rw[←hz,←i4];simp
 obtain⟨q1,q2⟩:=xZ _ _ _ _ hnews
 have hnl:news.length=len*e:=by have:=congrArg List.length q2;simp at this;omega
 have hcell :∀jj u,news[jj]? = some u→w.cell? ((⟨ρ.s j2,ρ.o j2+off,none⟩:Addr).add jj)=some u:=by
  intro jj u hu
  have hjl:jj<news.length:=by
   rcases Nat.lt_or_ge jj news.length with h|h
   ·exact h
   ·rw[List.getElem?_eq_none h]at hu;cases hu
  have hg':get cs (off+jj)=some (.v u):=by
   have e1:(news.map SV.v)[jj]? = some (.v u):=by rw[List.getElem?_map,hu];rfl
   rw[q8,←e1,q2,List.getElem?_take_of_lt (by omega),List.getElem?_drop]
  rw[zV,Nat.add_assoc]
  exact hW.cell hj2 hl hg'
 have hone' :∀u∈news,u.oneCell'=true:=by
  intro u hu
  exact wD (ρ:=ρ) (kK hone (.v u) (List.mem_map.2 ⟨u,hu,rfl⟩))
 have hblk :∀g,v.ownBlock=some g→g<c.w0.heap.size∧w.heap[g]? = c.w0.heap[g]? :=fun g hg=>⟨(hown.lt g hg).2,hW.keep g (hown.lt g hg).2 (hhid g hg)⟩
 have hownw:w.ownsRow 0 te e v m xs:=gP hown fun g hg=>(hblk g hg).2
 obtain⟨v',w',row,r1,r2,r3,r4,r5⟩:=xS (P:=c.P) w t o.type te inf z e hd1 g2 i3 g3 hzs he _ m _ hownw ⟨ρ.s j2,ρ.o j2+off,none⟩ len cap news hnl hcell hone' (by simp only[maxLen];omega) (by rw[g4];exact hfit.1)
 have hrun:(execOp a.eval o).run c.P w = .ok (.value v') w':=by
  simp only[SV.conc]at h1 h2 r1
  simp[execOp,hop,resolve,invoke,builtin,h1,h2,r1]
 have hF:ModF w (fun g=>v.ownBlock=some g) w':=⟨fun g hg hn=>r3.block g hg (fun e=>by
  rcases r4 with r4|r4
  ·rw[r4]at e;cases e
  ·rw[r4]at e;exact hn e.symm),r3.size,r3.os,r3.tape,r3.output⟩
 have hne :∀i o,look M i=some o→o.occ ρ i → ¬(v.ownBlock=some (ρ.s i)):=by
  intro i o hi hocc hg
  rcases hW.new i o hi hocc with⟨p,hp,hpe⟩|hge
  ·exact hhid _ hg p hp hpe
  ·have:=(hblk _ hg).1;omega
 have hocc :∀i∈is,i<n ∧ ∃o,look M i=some o∧o.occ ρ i:=fun i hi=>by
  obtain⟨g1,o,g2,g3⟩:=his i hi
  exact⟨g1,o,g2,g3 ρ w (hW.mem i o g2).2.2⟩
 have hWn:=hW.rebase hF is M' hocc (fun x hx=>by
  obtain⟨m1,m2,m3⟩:=hM' x hx
  refine⟨m1,?_,fun ho=> ?_⟩
  ·rcases m2 with m2|⟨pl,m2⟩
   ·obtain⟨_,o,o1,o2⟩:=hocc _ m2
    rw[m1]at o1
    obtain rfl:=Option.some.inj o1
    have hno:=hne _ _ m1 o2
    cases hx2:x.2<;>rw[hx2]at m3<;>first
     |exact hno
     |exact fun _=>hno
     |trivial
     |cases m3
   ·rw[m2];trivial
  ·rcases m2 with m2|⟨pl,m2⟩
   ·exact m2
   ·rw[m2]at ho;exact ho.elim)
 refine⟨v',w',hrun,.v v',T,ρ,M',n,_,rfl,trivial,fun t y ht=>⟨y,ht,rfl,(hT t y ht).2.2⟩,hWn,h v' w' _ r2 (fun g hg hv hL=> ?_) (Nat.le_trans hW.size hF.size) (hF.os.trans hW.os) (hF.tape.trans hW.tape) (hF.output.trans hW.output) (fun g hg=>⟨?_,fun p hp he=> ?_⟩) (fun p hp=> ?_)⟩
 ·rw[hF.keep g (Nat.lt_of_lt_of_le hg hW.size) hv];exact hW.keep g hg hL
 ·rcases r5 g hg with r5|r5
  ·left
   rcases r4 with r4|r4
   ·rw[r4]at r5;cases r5
   ·rw[r4]at r5;exact r5
  ·right;have:=hW.size;omega
 ·obtain⟨i,hi,rfl⟩:=List.mem_map.1 hp
  obtain⟨_,oo,o1,o2⟩:=hocc i hi
  simp only at he
  rcases r5 g hg with r5|r5
  ·rcases r4 with r4|r4
   ·rw[r4]at r5;cases r5
   ·rw[r4]at r5;exact hne i oo o1 o2 (by rw[he];exact r5)
  ·have:=SObj.rE (hW.mem i oo o1).2.2 o2;omega
 ·obtain⟨i,hi,rfl⟩:=List.mem_map.1 hp
  obtain⟨_,oo,o1,o2⟩:=hocc i hi
  exact⟨hi,hW.new i oo o1 o2⟩
theorem Run.chk {c:Cx}{T:List (Nat×SV)}{M:List (Nat×SObj)}{n:Nat}{D:List Deferred}{todo:List Item}{R:Ending→World→Prop}(is:List Nat)(M':List (Nat×SObj))(his :∀i∈is,i<n ∧ ∃o,look M i=some o ∧ ∀ ρ w,o.holds c.w0 c.L ρ i w→o.occ ρ i)
  (hM' :∀x∈M',look M x.1=some x.2∧(x.1∈is ∨ ∀ ρ,¬x.2.occ ρ x.1))
  (h :∀w' L',(∀g,g<c.w0.heap.size→(∀p∈c.L,p.2≠g)→w'.heap[g]? = c.w0.heap[g]?)→c.w0.heap.size≤w'.heap.size→w'.os=c.w0.os→w'.tape=c.w0.tape→w'.output=c.w0.output →
   (∀p∈L',p.1∈is∧((∃q∈c.L,q.2=p.2)∨c.w0.heap.size≤p.2))→Run { c with w0:=w',L:=L' } ⟨T,M',n,D,todo⟩ R):Run c ⟨T,M,n,D,todo⟩ R:=by
 refine⟨fun ρ a w hi=> ?_⟩
 have hocc :∀i∈is,i<n ∧ ∃o,look M i=some o∧o.occ ρ i:=fun i hi'=>by
  obtain⟨g1,o,g2,g3⟩:=his i hi'
  exact⟨g1,o,g2,g3 ρ w (hi.wi.mem i o g2).2.2⟩
 have hWn:=hi.wi.rebase (F:=fun _=>False) ((Ext.refl w).modF _) is M' hocc (fun x hx=>by
  obtain⟨m1,m2⟩:=hM' x hx
  refine⟨m1,?_,fun ho=> ?_⟩
  ·cases x.2<;>simp[SObj.away]
  ·rcases m2 with m2|m2
   ·exact m2
   ·exact absurd ho (m2 ρ))
 refine(h w _ (fun g hg hL=>hi.wi.keep g hg hL) hi.wi.size hi.wi.os hi.wi.tape hi.wi.output (fun p hp=> ?_)).go ρ a w ⟨hi.sz,hi.tm,hi.df,hWn⟩
 obtain⟨i,hi',rfl⟩:=List.mem_map.1 hp
 obtain⟨_,oo,o1,o2⟩:=hocc i hi'
 exact⟨hi',hi.wi.new i oo o1 o2⟩
theorem Run.upToW {ι : Type} (c : ι → Cx) {T : Nat → ι → List (Nat × SV)} {M : Nat → ι → List (Nat × SObj)} {n : Nat} {D : List Deferred} {todo : List Item} {R : Ending → World → Prop} (J : Nat → ι → Prop) (N : Nat) (x0 : ι) (h0 : J 0 x0)
    (hstep : ∀ i x,i < N → J i x → (∀ y,J (i + 1) y → Run (c y) ⟨T (i + 1) y,M (i + 1) y,n,D,todo⟩ R) → Run (c x) ⟨T i x,M i x,n,D,todo⟩ R) (hend : ∀ x,J N x → Run (c x) ⟨T N x,M N x,n,D,todo⟩ R) : Run (c x0) ⟨T 0 x0,M 0 x0,n,D,todo⟩ R := by
  have key : ∀ d i x,i + d = N → J i x → Run (c x) ⟨T i x,M i x,n,D,todo⟩ R := by
    intro d
    induction d with
    | zero => intro i x hi hJ; obtain rfl : i = N := by omega
              exact hend x hJ
    | succ d ih => intro i x hi hJ; exact hstep i x (by omega) hJ fun y hy => ih (i + 1) y (by omega) hy
  exact key N 0 x0 (by omega) h0
theorem Run.readW {c:Cx}{T T':List (Nat×SV)}{M:List (Nat×SObj)}{n:Nat}{D:List Deferred}{todo:List Item}{R:Ending→World→Prop}(p:Option Addr)(cap e m:Nat)(vs:List Value)(hv:RowsAt c.w0 (.slice p m cap) e m vs)(hL :∀b,(Value.slice p m cap).ownBlock=some b → ∀p∈c.L,p.2≠b)
  (hT :∀x∈T',look T x.1=some x.2∨(look T x.1=some (.v (.slice p m cap))∧x.2 = .opq n)) (h :∀b off,Run c ⟨T',(n+1,.pin [(n,b,off,(p,m,cap))])::(n,.rwin e m vs)::M,n+2,D,todo⟩ R):Run c ⟨T,M,n,D,todo⟩ R:=by
 obtain⟨h1,p',cap',hpe,h2,h3⟩:=hv
 obtain⟨rfl,_,rfl⟩:p=p'∧m=m∧cap=cap':=by simpa using hpe
 refine⟨fun ρ a w hi=> ?_⟩
 have hn :¬(n<n):=Nat.lt_irrefl n
 obtain⟨b,off,hb⟩ :∃b off,(m=0∨(p=some ⟨b,off,none⟩∧b<c.w0.heap.size ∧ ∀j x,vs[j]? = some x→c.w0.cell? ⟨b,off+j,none⟩=some x)):=by
  rcases h3 with h3|⟨blk,off,h4,h5,h6⟩
  ·exact⟨0,0,.inl h3⟩
  ·exact⟨blk,off,.inr ⟨h4,h5,h6⟩⟩
 have hag:=Env.rX ρ b off (p,m,cap) (S:=(· < n)) hn
 obtain⟨q1,q2,q3⟩:=Env.rY ρ n b off (p,m,cap)
 have hW':=hi.wi.addR hag (i:=n) (o:=.rwin e m vs) trivial (fun _ _ h=>h) (by
  simp only[SObj.holds,q1,q2,q3]
  refine⟨h1,trivial,h2,?_⟩
  rcases hb with hb|⟨hb0,hb1,hb2⟩
  ·exact .inl hb
  ·exact .inr ⟨hb0,hb1,hL b (by rw[hb0];rfl),hb2⟩)
 have hW2:=hW'.addR (i:=n+1) (Env.agree.refl _ _) (o:=.pin [(n,b,off,(p,m,cap))]) (fun q hq=>by rw[List.mem_singleton]at hq;subst hq;exact .inr rfl) (fun _ _ h=>h) (fun q hq=>by rw[List.mem_singleton]at hq;subst hq;exact⟨q1,q2,q3⟩)
 refine(h b off).go (ρ.bindW n b off (p,m,cap)) a w ⟨hi.sz,fun t u ht=> ?_,hi.df,?_⟩
 ·rcases hT _ (qF ht)with k1|⟨k1,k2⟩
  ·obtain⟨g1,g2,g3⟩:=hi.tm t u k1
   exact⟨g1,by rw[zY hag _ g3];exact g2,SV.sc_mono (fun q (hq:q<n)=>by show q<n+2;omega) _ g3⟩
  ·simp only at k2
   subst k2
   obtain⟨g1,g2,g3⟩:=hi.tm t _ k1
   exact⟨g1,by rw[g2];simp only[SV.conc,q3],by show n<n+2;omega⟩
 ·rw[qX,qX]
  exact hW2.mono fun q hq=>by have hq:(q<n∨q=n)∨q=n+1:=hq;show q<n+2;omega
theorem Run.unread {c:Cx}{T T':List (Nat×SV)}{M:List (Nat×SObj)}{n:Nat}{D:List Deferred}{todo:List Item}{R:Ending→World→Prop}(i q b off:Nat)(h0:Option Addr×Nat×Nat)(hq:look M q=some (.pin [(i,b,off,h0)]))
  (hT :∀x∈T',look T x.1=some x.2∨(look T x.1=some (.opq i)∧x.2 = .v (.slice h0.1 h0.2.1 h0.2.2))) (h:Run c ⟨T',M,n,D,todo⟩ R):Run c ⟨T,M,n,D,todo⟩ R:=by
 refine⟨fun ρ a w hi=>h.go ρ a w ⟨hi.sz,fun t u ht=> ?_,hi.df,hi.wi⟩⟩
 rcases hT _ (qF ht)with k1|⟨k1,k2⟩
 ·exact hi.tm t u k1
 ·simp only at k2
  subst k2
  obtain⟨g1,g2,g3⟩:=hi.tm t _ k1
  have:=(hi.wi.mem q _ hq).2.2 _ (List.mem_singleton.2 rfl)
  exact⟨g1,by rw[g2];simp only[SV.conc,this.2.2],trivial⟩
end Go.Sx
namespace Go.Proofs.Ytnnlpdgnlccbjaa
open Go.Sx
set_option maxRecDepth 100000
set_option maxHeartbeats 4000000
def zH (S:List Syn)(k:Int):List Syn:=S.filter fun s=>decide (s.fr=k)
theorem synAt_succ {S:List Syn}{i:Nat}(h:i<S.length)(k:Int):zH (S.take (i+1)) k=zH (S.take i) k++if S[i].fr=k then [S[i]]else []:=by
 unfold zH
 rw[←List.take_append_getElem h,List.filter_append]
 by_cases e:S[i].fr=k<;>simp[e]
theorem synAt_len (S:List Syn)(i:Nat)(k:Int):(zH (S.take i) k).length≤i:=Nat.le_trans (List.length_filter_le ..) (by simp;omega)
def kval (m:List (Key×Value))(k:Int):Value:=(zM m (.i k)).getD (.slice none 0 0)
theorem kval_put (m:List (Key×Value))(a k:Int)(v:Value):kval (zK m (.i a) v) k=if k=a then v else kval m k:=by
 unfold kval
 by_cases e:k=a
 ·subst e;rw[k7,if_pos rfl];rfl
 ·rw[uD _ _ _ _ (by simpa using e),if_neg e]
structure WInv (w:World) (S:List Syn) (i:Nat) (w0:World) (L:List (Nat×Nat)) (m:List (Key×Value)):Prop where
 ext:Ext w w0
 lid :∀p∈L,w.heap.size≤p.2
 own :∀k,w0.ownsRow w.heap.size 55 4 (kval m k) (zH (S.take i) k).length ((zH (S.take i) k).flatMap Syn.vals)
 off :∀k g,(kval m k).ownBlock=some g → ∀p∈L,p.2≠g
 apart :∀k k' g,k≠k'→(kval m k).ownBlock=some g→(kval m k').ownBlock≠some g
theorem WInv.start (w:World)(S:List Syn):WInv w S 0 w [] [] where
 ext:=Ext.refl w
 lid p hp:=by cases hp
 own k:=World.ownsRow_nil w _ _ _
 off k g h:=by simp[kval,zM,Value.ownBlock]at h
 apart k k' g _ h:=by simp[kval,zM,Value.ownBlock]at h
theorem WInv.chk {w:World}{S:List Syn}{i:Nat}{w0 w':World}{L L':List (Nat×Nat)}{m:List (Key×Value)}(h:WInv w S i w0 L m)(h1 :∀g,g<w0.heap.size→(∀p∈L,p.2≠g)→w'.heap[g]? = w0.heap[g]?)(h2:w0.heap.size≤w'.heap.size)(h3:w'.os=w0.os)(h4:w'.tape=w0.tape)(h5:w'.output=w0.output)
  (h6 :∀p∈L',(∃q∈L,q.2=p.2)∨w0.heap.size≤p.2):WInv w S i w' L' m where
 ext:=⟨fun k hk=>by rw[h1 k (Nat.lt_of_lt_of_le hk h.ext.size) (fun p hp=>by have:=h.lid p hp;omega)];exact h.ext.keep k hk,Nat.le_trans h.ext.size h2,h3.trans h.ext.os,h4.trans h.ext.tape,h5.trans h.ext.output⟩
 lid p hp:=by
  rcases h6 p hp with⟨q,hq,e⟩|hge
  ·rw[←e];exact h.lid q hq
  ·have:=h.ext.size;omega
 own k:=gP (h.own k) fun g hg=>h1 g ((h.own k).lt g hg).2 (h.off k g hg)
 off k g hg p hp:=by
  rcases h6 p hp with⟨q,hq,e⟩|hge
  ·rw[←e];exact h.off k g hg q hq
  ·have:=((h.own k).lt g hg).2;omega
 apart:=h.apart
theorem wires_run (vN vS:Value)(n:Net)(w:World)(hn:xU w vN vS n)(hS:n.S.length≤8192) :
  Calls Try.prog 92 #[netV vN vS n] w fun e w'=> ∃b,e = .returned (.map (some b))∧Ext w w'∧SwinAt w' (fun x=>w.heap.size≤x∧x<w'.heap.size) b 4 (fun k=>(zH n.S k).length) fun k=>(zH n.S k).flatMap Syn.vals:=by
 obtain⟨hn1,hn2⟩:=hn
 obtain⟨N,inp,S⟩:=n
 simp only at hn1 hn2 hS ⊢
 have hvS:=hn2
 obtain⟨_,pN,cN,rfl,_⟩:=hn1
 obtain⟨_,pS,cS,rfl,_⟩:=hn2
 have hc :∀w0 L,Cx.ok ⟨Try.prog,tab,[],92,Try.f92,[],w0,L,none⟩:=fun w0 L=>⟨qI,trivial,Try.func92,mixed,fun _ h=>by cases h⟩
 refine Run.s9 (tab:=tab) (pf:=[]) (cuts:=[]) mixed qI trivial Try.func92 rfl [.agg [.v (.slice pN N.length cN),ii inp,.v (.slice pS S.length cS)]] 1000 (by simp[SV.scs,SV.sc]) rfl ?_
 conv=>whnf
 refine Run.s6 (T':=[(3,.mp 1),(8,.v (.slice pS S.length cS)),(9,ii (S.length:Int)),(10,ii ((0:Nat):Int))]) (M':=[(1,.kmap false true [])]) 2 ⟨⟨rfl,ltb rfl⟩,⟨rfl,trivial⟩,⟨rfl,trivial⟩,⟨rfl,trivial⟩,trivial⟩ ⟨⟨rfl,by omega,Os.h _⟩,trivial⟩ (fun p hp=>by cases hp) ?_
 refine Run.upToW (fun x:World×List (Nat×Nat)×List (Key×Value)=>(⟨Try.prog,tab,[],92,Try.f92,[],x.1,x.2.1,none⟩:Cx)) (T:=fun i x=>[(3,.mp 1),(8,.v (.slice pS S.length cS)),(9,ii (S.length:Int)),(10,ii ((i:Nat):Int))]) (M:=fun i x=>[(1,.kmap false true x.2.2)]) (fun i x=>WInv w S i x.1 x.2.1 x.2.2 ∧ ∀p∈x.2.1,p.1=1) S.length (w,[],[]) ⟨WInv.start w S,fun p hp=>by cases hp⟩ ?_ ?_
 ·rintro i ⟨w0,L,m⟩ hi ⟨hJ,hJL⟩ ih
  simp only at hJ hJL ih ⊢
  have hvS0:RowsAt w0 (.slice pS S.length cS) 4 S.length (S.flatMap Syn.vals):=hvS.ext hJ.ext
  have hoff :∀b,(Value.slice pS S.length cS).ownBlock=some b → ∀p∈L,p.2≠b:=fun b hb p hp he=>by
   obtain⟨_,p',c',hpe,_,hh⟩:=hvS
   obtain⟨rfl,_,_⟩:pS=p'∧S.length=S.length∧cS=c':=by simpa using hpe
   rcases hh with hh|⟨blk,off,rfl,h4,_⟩
   ·omega
   ·have:blk=b:=by simpa[Value.ownBlock]using hb
    have:=(hJ.lid p hp)
    omega
  refine Run.readW pS cS 4 S.length _ hvS0 hoff (T':=[(3,.mp 1),(8,.opq 2),(9,ii (S.length:Int)),(10,ii ((i:Nat):Int))]) (AllP.mem ⟨.inl rfl,.inr ⟨rfl,rfl⟩,.inl rfl,.inl rfl,trivial⟩) fun bS oS=> ?_
  refine Run.W1 (hc w0 L) ?_
  conv=>whnf
  rw[decide_eq_true (show((i:Nat):Int)<(S.length:Int)by omega)]
  conv=>whnf
  refine⟨by omega,?_⟩
  conv=>whnf
  rw[jI (f:=Syn.vals) i rfl rfl rfl rfl rfl Syn.vlen (by rw[qQ]) hi]
  conv=>whnf
  refine Run.unread 2 3 bS oS _ rfl (T':=[(3,.mp 1),(5,.ptr 4 0),(8,.v (.slice pS S.length cS)),(9,ii (S.length:Int)),(10,ii ((i:Nat):Int))]) (AllP.mem ⟨.inl rfl,.inl rfl,.inr ⟨rfl,rfl⟩,.inl rfl,.inl rfl,trivial⟩) ?_
  refine Run.s6 (T':=[(3,.mp 1),(5,.ptr 4 0),(8,.v (.slice pS S.length cS)),(9,ii (S.length:Int)),(10,ii ((i:Nat):Int))]) (M':=[(4,.cells [ii S[i].fr,ii S[i].to,ii S[i].w,ii S[i].d] 55),(1,.kmap false true m)]) 5 ⟨⟨rfl,ltb rfl⟩,⟨rfl,ltb rfl⟩,⟨rfl,trivial⟩,⟨rfl,trivial⟩,⟨rfl,trivial⟩,trivial⟩ ⟨⟨rfl,by omega,qE _ rfl⟩,⟨rfl,by omega,Os.h _⟩,trivial⟩ (fun p hp=>by have:=hJL p hp;omega) ?_
  refine Run.drawE (hc w0 L) rfl fun l hl=> ?_
  obtain⟨p,r,rfl,hp,hr,hex,hsp,hsr,hbef,haft,hcl⟩:=hl.split 9 (by decide)
  have b3:3∈p:=hbef 3 (jS rfl)
  have b4:4∈p:=hbef 4 (jS rfl)
  have b5:5∈p:=hbef 5 (jS rfl)
  have b6:6∈p:=hbef 6 (jS rfl)
  have b7:7∈p:=hbef 7 (jS rfl)
  have b8:8∈p:=hbef 8 (jS rfl)
  obtain⟨a10,n10⟩:=haft 10 (jS rfl) (by decide)
  have dis :∀i,i<11→i∈p→i∉r:=fun i hi hip=>by
   by_cases e:i=9
   ·subst e;exact hsr
   ·rcases hex i hi e with h|h
    ·exact h.2
    ·exact absurd hip h.1
  have inr :∀i,i<11→i≠9→i∉p→i∈r:=fun i hi e hip=>by
   rcases hex i hi e with h|h
   ·exact absurd h.1 hip
   ·exact h.2
  have hown:=hJ.own S[i].fr
  obtain⟨vp,vn,vc,hval⟩ :∃p n c,kval m S[i].fr = .slice p n c:=by
   rcases hown.2 with⟨h,_⟩|⟨g,cap,cur,h,_⟩
   ·exact⟨_,_,_,h⟩
   ·exact⟨_,_,_,h⟩
  have hval2:(zM m (.i S[i].fr)).getD (.slice none 0 0) = .slice vp vn vc:=hval
  have hlen:=synAt_len S i S[i].fr
  have hsu:=synAt_succ hi
  have next :∀(v':Value) (w':World) (L':List (Nat×Nat)),w'.ownsRow 0 55 4 v' ((zH (S.take i) S[i].fr).length+1) ((zH (S.take i) S[i].fr).flatMap Syn.vals++S[i].vals)→(∀g,g<w0.heap.size→(kval m S[i].fr).ownBlock≠some g→(∀p∈L,p.2≠g)→w'.heap[g]? = w0.heap[g]?)→w0.heap.size≤w'.heap.size→w'.os=w0.os→w'.tape=w0.tape→w'.output=w0.output →
     (∀g,v'.ownBlock=some g→((kval m S[i].fr).ownBlock=some g∨w0.heap.size≤g) ∧ ∀p∈L',p.2≠g)→(∀p∈L',(∃q∈L,q.2=p.2)∨w0.heap.size≤p.2)→WInv w S (i+1) w' L' (zK m (.i S[i].fr) v'):=by
   intro v' w' L' A1 A2 A3 A4 A5 A6 A7 A8
   have hw0:=hJ.ext.size
   have hlo :∀g,v'.ownBlock=some g→w.heap.size≤g:=fun g hg=>by
    rcases(A7 g hg).1 with h|h
    ·exact(hown.lt g h).1
    ·omega
   have hoth :∀k,k≠S[i].fr → ∀g,(kval m k).ownBlock=some g→g<w0.heap.size∧w'.heap[g]? = w0.heap[g]? :=fun k hk g hg=>by
    have hlt:=((hJ.own k).lt g hg).2
    exact⟨hlt,A2 g hlt (fun h=>hJ.apart k S[i].fr g hk hg h) (hJ.off k g hg)⟩
   refine⟨⟨fun k hk=> ?_,Nat.le_trans hw0 A3,A4.trans hJ.ext.os,A5.trans hJ.ext.tape,A6.trans hJ.ext.output⟩,fun p hp=> ?_,fun k=> ?_,fun k g hg p hp=> ?_,fun k k' g hne hg hg'=> ?_⟩
   ·rw[A2 k (by omega) (fun h=>by have:=(hown.lt k h).1;omega) (fun p hp=>by have:=(hJ.lid p hp);omega)]
    exact hJ.ext.keep k hk
   ·rcases A8 p hp with⟨q,hq,hqe⟩|h
    ·rw[←hqe];exact(hJ.lid q hq)
    ·omega
   ·rw[kval_put,hsu k]
    by_cases e:k=S[i].fr
    ·subst e
     rw[if_pos rfl,if_pos rfl,List.length_append,List.flatMap_append]
     refine ownsRow_up (b:=0) ?_ hlo
     simpa using A1
    ·rw[if_neg e,if_neg (Ne.symm e),List.append_nil]
     exact gP (hJ.own k) fun g hg=>(hoth k e g hg).2
   ·rw[kval_put]at hg
    split at hg
    ·exact(A7 g hg).2 p hp
    ·rename_i e
     have hlt:=(hoth k e g hg).1
     rcases A8 p hp with⟨q,hq,hqe⟩|h
     ·rw[←hqe];exact hJ.off k g hg q hq
     ·omega
   ·rw[kval_put]at hg hg'
    split at hg
    ·rename_i e1
     rw[if_neg (fun e2=>hne (e1.trans e2.symm))]at hg'
     have hlt:=(hoth k' (fun e2=>hne (e1.trans e2.symm)) g hg').1
     rcases(A7 g hg).1 with h|h
     ·exact hJ.apart S[i].fr k' g (fun e2=>hne (e1.trans e2)) h hg'
     ·omega
    ·rename_i e1
     split at hg'
     ·rename_i e2
      have hlt:=(hoth k e1 g hg).1
      rcases(A7 g hg').1 with h|h
      ·exact hJ.apart k S[i].fr g e1 hg h
      ·omega
     ·exact hJ.apart k k' g hne hg hg'
  by_cases c0:0∈p
  ·by_cases c1:1∈p
   ·by_cases c2:2∈p
    ·refine Run.s8 (hc w0 L) [0,1,2,3,4,5,6,7,8] [9,10] hp ⟨c0,c1,c2,b3,b4,b5,b6,b7,b8,trivial⟩ ⟨hsp,n10,trivial⟩ (by decide) rfl ?_
     conv=>whnf
     rw[hval2]
     conv=>whnf
     refine⟨by kernel_rfl,?_⟩
     refine Run.rP (hc w0 L) (x:=.tmp 20) (y:=.tmp 22) rfl rfl rfl rfl rfl (v:=.slice vp vn vc) (by rw[←hval];exact jU hown (Nat.zero_le _)) (by rw[←hval];exact hJ.off _) (news:=S[i].vals) rfl rfl rfl rfl rfl rfl rfl rfl rfl (by decide) (by omega) [1,4] [(4,.cells [ii S[i].fr,ii S[i].to,ii S[i].w,ii S[i].d] 55),(1,.kmap false true m)] (AllP.mem ⟨⟨by omega,_,rfl,fun ρ w h=>(by rcases h.2 with h1|h1;exact h1.1;cases h1.1)⟩,⟨by omega,_,rfl,fun ρ w h=>trivial⟩,trivial⟩) (AllP.mem ⟨⟨rfl,.inl (by simp),rfl⟩,⟨rfl,.inl (by simp),rfl⟩,trivial⟩) fun v' w' L' A1 A2 A3 A4 A5 A6 A7 A8=> ?_
     rw[←List.append_nil r]
     refine Run.s8 (hc w' L') [10] [0,1,2,3,4,5,6,7,8,9] hr ⟨a10,trivial⟩ ⟨dis 0 (by decide) c0,dis 1 (by decide) c1,dis 2 (by decide) c2,dis 3 (by decide) b3,dis 4 (by decide) b4,dis 5 (by decide) b5,dis 6 (by decide) b6,dis 7 (by decide) b7,dis 8 (by decide) b8,hsr,trivial⟩ (by decide) rfl ?_
     conv=>whnf
     refine⟨by kernel_rfl,?_⟩
     refine Run.W1 (hc w' L') ?_
     conv=>whnf
     rw[←hval]at A2 A7
     refine Run.chk [1] [(1,.kmap false true (zK m (.i S[i].fr) v'))] (AllP.mem ⟨⟨Nat.le_of_ble_eq_true rfl,_,rfl,fun ρ w h=>(by rcases h.2 with h1|h1;exact h1.1;cases h1.1)⟩,trivial⟩) (AllP.mem ⟨⟨rfl,.inl (by simp)⟩,trivial⟩) fun w2 L2 B1 B2 B3 B4 B5 B6=> ?_
     exact Run.tH (ih (w2,L2,zK m (.i S[i].fr) v') ⟨(next v' w' L' A1 A2 A3 A4 A5 A6 A7 (fun q hq=>(A8 q hq).2)).chk B1 B2 B3 B4 B5 (fun q hq=>(B6 q hq).2),fun q hq=>by simpa using (B6 q hq).1⟩) ⟨⟨rfl,ltb rfl⟩,⟨rfl,trivial⟩,⟨rfl,trivial⟩,⟨wsx (by omega),trivial⟩,trivial⟩ ⟨⟨rfl,by omega,Os.h _⟩,trivial⟩ (fun q hq=>by have:=(B6 q hq).1;simp at this;omega)
    ·refine Run.s8 (hc w0 L) [0,1,3,4,5,6,7,8] [2,9,10] hp ⟨c0,c1,b3,b4,b5,b6,b7,b8,trivial⟩ ⟨c2,hsp,n10,trivial⟩ (by decide) rfl ?_
     conv=>whnf
     rw[hval2]
     conv=>whnf
     refine⟨by kernel_rfl,?_⟩
     refine Run.rP (hc w0 L) (x:=.tmp 20) (y:=.tmp 22) rfl rfl rfl rfl rfl (v:=.slice vp vn vc) (by rw[←hval];exact jU hown (Nat.zero_le _)) (by rw[←hval];exact hJ.off _) (news:=S[i].vals) rfl rfl rfl rfl rfl rfl rfl rfl rfl (by decide) (by omega) [1,4] [(4,.cells [ii S[i].fr,ii S[i].to,ii S[i].w,ii S[i].d] 55),(1,.kmap false true m)] (AllP.mem ⟨⟨by omega,_,rfl,fun ρ w h=>(by rcases h.2 with h1|h1;exact h1.1;cases h1.1)⟩,⟨by omega,_,rfl,fun ρ w h=>trivial⟩,trivial⟩) (AllP.mem ⟨⟨rfl,.inl (by simp),rfl⟩,⟨rfl,.inl (by simp),rfl⟩,trivial⟩) fun v' w' L' A1 A2 A3 A4 A5 A6 A7 A8=> ?_
     rw[←List.append_nil r]
     refine Run.s8 (hc w' L') [2,10] [0,1,3,4,5,6,7,8,9] hr ⟨inr 2 (by decide) (by decide) c2,a10,trivial⟩ ⟨dis 0 (by decide) c0,dis 1 (by decide) c1,dis 3 (by decide) b3,dis 4 (by decide) b4,dis 5 (by decide) b5,dis 6 (by decide) b6,dis 7 (by decide) b7,dis 8 (by decide) b8,hsr,trivial⟩ (by decide) rfl ?_
     conv=>whnf
     refine⟨by kernel_rfl,?_⟩
     refine Run.W1 (hc w' L') ?_
     conv=>whnf
     rw[←hval]at A2 A7
     refine Run.chk [1] [(1,.kmap false true (zK m (.i S[i].fr) v'))] (AllP.mem ⟨⟨Nat.le_of_ble_eq_true rfl,_,rfl,fun ρ w h=>(by rcases h.2 with h1|h1;exact h1.1;cases h1.1)⟩,trivial⟩) (AllP.mem ⟨⟨rfl,.inl (by simp)⟩,trivial⟩) fun w2 L2 B1 B2 B3 B4 B5 B6=> ?_
     exact Run.tH (ih (w2,L2,zK m (.i S[i].fr) v') ⟨(next v' w' L' A1 A2 A3 A4 A5 A6 A7 (fun q hq=>(A8 q hq).2)).chk B1 B2 B3 B4 B5 (fun q hq=>(B6 q hq).2),fun q hq=>by simpa using (B6 q hq).1⟩) ⟨⟨rfl,ltb rfl⟩,⟨rfl,trivial⟩,⟨rfl,trivial⟩,⟨wsx (by omega),trivial⟩,trivial⟩ ⟨⟨rfl,by omega,Os.h _⟩,trivial⟩ (fun q hq=>by have:=(B6 q hq).1;simp at this;omega)
   ·have c2:2∉p:=fun h=>c1 (hcl 1 2 (jS rfl) h)
    refine Run.s8 (hc w0 L) [0,3,4,5,6,7,8] [1,2,9,10] hp ⟨c0,b3,b4,b5,b6,b7,b8,trivial⟩ ⟨c1,c2,hsp,n10,trivial⟩ (by decide) rfl ?_
    conv=>whnf
    rw[hval2]
    conv=>whnf
    refine⟨by kernel_rfl,?_⟩
    refine Run.rP (hc w0 L) (x:=.tmp 20) (y:=.tmp 22) rfl rfl rfl rfl rfl (v:=.slice vp vn vc) (by rw[←hval];exact jU hown (Nat.zero_le _)) (by rw[←hval];exact hJ.off _) (news:=S[i].vals) rfl rfl rfl rfl rfl rfl rfl rfl rfl (by decide) (by omega) [1,4] [(4,.cells [ii S[i].fr,ii S[i].to,ii S[i].w,ii S[i].d] 55),(1,.kmap false true m)] (AllP.mem ⟨⟨by omega,_,rfl,fun ρ w h=>(by rcases h.2 with h1|h1;exact h1.1;cases h1.1)⟩,⟨by omega,_,rfl,fun ρ w h=>trivial⟩,trivial⟩) (AllP.mem ⟨⟨rfl,.inl (by simp),rfl⟩,⟨rfl,.inl (by simp),rfl⟩,trivial⟩) fun v' w' L' A1 A2 A3 A4 A5 A6 A7 A8=> ?_
    rw[←List.append_nil r]
    refine Run.s8 (hc w' L') [1,2,10] [0,3,4,5,6,7,8,9] hr ⟨inr 1 (by decide) (by decide) c1,inr 2 (by decide) (by decide) c2,a10,trivial⟩ ⟨dis 0 (by decide) c0,dis 3 (by decide) b3,dis 4 (by decide) b4,dis 5 (by decide) b5,dis 6 (by decide) b6,dis 7 (by decide) b7,dis 8 (by decide) b8,hsr,trivial⟩ (by decide) rfl ?_
    conv=>whnf
    refine⟨by kernel_rfl,?_⟩
    refine Run.W1 (hc w' L') ?_
    conv=>whnf
    rw[←hval]at A2 A7
    refine Run.chk [1] [(1,.kmap false true (zK m (.i S[i].fr) v'))] (AllP.mem ⟨⟨Nat.le_of_ble_eq_true rfl,_,rfl,fun ρ w h=>(by rcases h.2 with h1|h1;exact h1.1;cases h1.1)⟩,trivial⟩) (AllP.mem ⟨⟨rfl,.inl (by simp)⟩,trivial⟩) fun w2 L2 B1 B2 B3 B4 B5 B6=> ?_
    exact Run.tH (ih (w2,L2,zK m (.i S[i].fr) v') ⟨(next v' w' L' A1 A2 A3 A4 A5 A6 A7 (fun q hq=>(A8 q hq).2)).chk B1 B2 B3 B4 B5 (fun q hq=>(B6 q hq).2),fun q hq=>by simpa using (B6 q hq).1⟩) ⟨⟨rfl,ltb rfl⟩,⟨rfl,trivial⟩,⟨rfl,trivial⟩,⟨wsx (by omega),trivial⟩,trivial⟩ ⟨⟨rfl,by omega,Os.h _⟩,trivial⟩ (fun q hq=>by have:=(B6 q hq).1;simp at this;omega)
  ·by_cases c1:1∈p
   ·by_cases c2:2∈p
    ·refine Run.s8 (hc w0 L) [1,2,3,4,5,6,7,8] [0,9,10] hp ⟨c1,c2,b3,b4,b5,b6,b7,b8,trivial⟩ ⟨c0,hsp,n10,trivial⟩ (by decide) rfl ?_
     conv=>whnf
     rw[hval2]
     conv=>whnf
     refine⟨by kernel_rfl,?_⟩
     refine Run.rP (hc w0 L) (x:=.tmp 20) (y:=.tmp 22) rfl rfl rfl rfl rfl (v:=.slice vp vn vc) (by rw[←hval];exact jU hown (Nat.zero_le _)) (by rw[←hval];exact hJ.off _) (news:=S[i].vals) rfl rfl rfl rfl rfl rfl rfl rfl rfl (by decide) (by omega) [1,4] [(4,.cells [ii S[i].fr,ii S[i].to,ii S[i].w,ii S[i].d] 55),(1,.kmap false true m)] (AllP.mem ⟨⟨by omega,_,rfl,fun ρ w h=>(by rcases h.2 with h1|h1;exact h1.1;cases h1.1)⟩,⟨by omega,_,rfl,fun ρ w h=>trivial⟩,trivial⟩) (AllP.mem ⟨⟨rfl,.inl (by simp),rfl⟩,⟨rfl,.inl (by simp),rfl⟩,trivial⟩) fun v' w' L' A1 A2 A3 A4 A5 A6 A7 A8=> ?_
     rw[←List.append_nil r]
     refine Run.s8 (hc w' L') [0,10] [1,2,3,4,5,6,7,8,9] hr ⟨inr 0 (by decide) (by decide) c0,a10,trivial⟩ ⟨dis 1 (by decide) c1,dis 2 (by decide) c2,dis 3 (by decide) b3,dis 4 (by decide) b4,dis 5 (by decide) b5,dis 6 (by decide) b6,dis 7 (by decide) b7,dis 8 (by decide) b8,hsr,trivial⟩ (by decide) rfl ?_
     conv=>whnf
     refine⟨by kernel_rfl,?_⟩
     refine Run.W1 (hc w' L') ?_
     conv=>whnf
     rw[←hval]at A2 A7
     refine Run.chk [1] [(1,.kmap false true (zK m (.i S[i].fr) v'))] (AllP.mem ⟨⟨Nat.le_of_ble_eq_true rfl,_,rfl,fun ρ w h=>(by rcases h.2 with h1|h1;exact h1.1;cases h1.1)⟩,trivial⟩) (AllP.mem ⟨⟨rfl,.inl (by simp)⟩,trivial⟩) fun w2 L2 B1 B2 B3 B4 B5 B6=> ?_
     exact Run.tH (ih (w2,L2,zK m (.i S[i].fr) v') ⟨(next v' w' L' A1 A2 A3 A4 A5 A6 A7 (fun q hq=>(A8 q hq).2)).chk B1 B2 B3 B4 B5 (fun q hq=>(B6 q hq).2),fun q hq=>by simpa using (B6 q hq).1⟩) ⟨⟨rfl,ltb rfl⟩,⟨rfl,trivial⟩,⟨rfl,trivial⟩,⟨wsx (by omega),trivial⟩,trivial⟩ ⟨⟨rfl,by omega,Os.h _⟩,trivial⟩ (fun q hq=>by have:=(B6 q hq).1;simp at this;omega)
    ·refine Run.s8 (hc w0 L) [1,3,4,5,6,7,8] [0,2,9,10] hp ⟨c1,b3,b4,b5,b6,b7,b8,trivial⟩ ⟨c0,c2,hsp,n10,trivial⟩ (by decide) rfl ?_
     conv=>whnf
     rw[hval2]
     conv=>whnf
     refine⟨by kernel_rfl,?_⟩
     refine Run.rP (hc w0 L) (x:=.tmp 20) (y:=.tmp 22) rfl rfl rfl rfl rfl (v:=.slice vp vn vc) (by rw[←hval];exact jU hown (Nat.zero_le _)) (by rw[←hval];exact hJ.off _) (news:=S[i].vals) rfl rfl rfl rfl rfl rfl rfl rfl rfl (by decide) (by omega) [1,4] [(4,.cells [ii S[i].fr,ii S[i].to,ii S[i].w,ii S[i].d] 55),(1,.kmap false true m)] (AllP.mem ⟨⟨by omega,_,rfl,fun ρ w h=>(by rcases h.2 with h1|h1;exact h1.1;cases h1.1)⟩,⟨by omega,_,rfl,fun ρ w h=>trivial⟩,trivial⟩) (AllP.mem ⟨⟨rfl,.inl (by simp),rfl⟩,⟨rfl,.inl (by simp),rfl⟩,trivial⟩) fun v' w' L' A1 A2 A3 A4 A5 A6 A7 A8=> ?_
     rw[←List.append_nil r]
     refine Run.s8 (hc w' L') [0,2,10] [1,3,4,5,6,7,8,9] hr ⟨inr 0 (by decide) (by decide) c0,inr 2 (by decide) (by decide) c2,a10,trivial⟩ ⟨dis 1 (by decide) c1,dis 3 (by decide) b3,dis 4 (by decide) b4,dis 5 (by decide) b5,dis 6 (by decide) b6,dis 7 (by decide) b7,dis 8 (by decide) b8,hsr,trivial⟩ (by decide) rfl ?_
     conv=>whnf
     refine⟨by kernel_rfl,?_⟩
     refine Run.W1 (hc w' L') ?_
     conv=>whnf
     rw[←hval]at A2 A7
     refine Run.chk [1] [(1,.kmap false true (zK m (.i S[i].fr) v'))] (AllP.mem ⟨⟨Nat.le_of_ble_eq_true rfl,_,rfl,fun ρ w h=>(by rcases h.2 with h1|h1;exact h1.1;cases h1.1)⟩,trivial⟩) (AllP.mem ⟨⟨rfl,.inl (by simp)⟩,trivial⟩) fun w2 L2 B1 B2 B3 B4 B5 B6=> ?_
     exact Run.tH (ih (w2,L2,zK m (.i S[i].fr) v') ⟨(next v' w' L' A1 A2 A3 A4 A5 A6 A7 (fun q hq=>(A8 q hq).2)).chk B1 B2 B3 B4 B5 (fun q hq=>(B6 q hq).2),fun q hq=>by simpa using (B6 q hq).1⟩) ⟨⟨rfl,ltb rfl⟩,⟨rfl,trivial⟩,⟨rfl,trivial⟩,⟨wsx (by omega),trivial⟩,trivial⟩ ⟨⟨rfl,by omega,Os.h _⟩,trivial⟩ (fun q hq=>by have:=(B6 q hq).1;simp at this;omega)
   ·have c2:2∉p:=fun h=>c1 (hcl 1 2 (jS rfl) h)
    refine Run.s8 (hc w0 L) [3,4,5,6,7,8] [0,1,2,9,10] hp ⟨b3,b4,b5,b6,b7,b8,trivial⟩ ⟨c0,c1,c2,hsp,n10,trivial⟩ (by decide) rfl ?_
    conv=>whnf
    rw[hval2]
    conv=>whnf
    refine⟨by kernel_rfl,?_⟩
    refine Run.rP (hc w0 L) (x:=.tmp 20) (y:=.tmp 22) rfl rfl rfl rfl rfl (v:=.slice vp vn vc) (by rw[←hval];exact jU hown (Nat.zero_le _)) (by rw[←hval];exact hJ.off _) (news:=S[i].vals) rfl rfl rfl rfl rfl rfl rfl rfl rfl (by decide) (by omega) [1,4] [(4,.cells [ii S[i].fr,ii S[i].to,ii S[i].w,ii S[i].d] 55),(1,.kmap false true m)] (AllP.mem ⟨⟨by omega,_,rfl,fun ρ w h=>(by rcases h.2 with h1|h1;exact h1.1;cases h1.1)⟩,⟨by omega,_,rfl,fun ρ w h=>trivial⟩,trivial⟩) (AllP.mem ⟨⟨rfl,.inl (by simp),rfl⟩,⟨rfl,.inl (by simp),rfl⟩,trivial⟩) fun v' w' L' A1 A2 A3 A4 A5 A6 A7 A8=> ?_
    rw[←List.append_nil r]
    refine Run.s8 (hc w' L') [0,1,2,10] [3,4,5,6,7,8,9] hr ⟨inr 0 (by decide) (by decide) c0,inr 1 (by decide) (by decide) c1,inr 2 (by decide) (by decide) c2,a10,trivial⟩ ⟨dis 3 (by decide) b3,dis 4 (by decide) b4,dis 5 (by decide) b5,dis 6 (by decide) b6,dis 7 (by decide) b7,dis 8 (by decide) b8,hsr,trivial⟩ (by decide) rfl ?_
    conv=>whnf
    refine⟨by kernel_rfl,?_⟩
    refine Run.W1 (hc w' L') ?_
    conv=>whnf
    rw[←hval]at A2 A7
    refine Run.chk [1] [(1,.kmap false true (zK m (.i S[i].fr) v'))] (AllP.mem ⟨⟨Nat.le_of_ble_eq_true rfl,_,rfl,fun ρ w h=>(by rcases h.2 with h1|h1;exact h1.1;cases h1.1)⟩,trivial⟩) (AllP.mem ⟨⟨rfl,.inl (by simp)⟩,trivial⟩) fun w2 L2 B1 B2 B3 B4 B5 B6=> ?_
    exact Run.tH (ih (w2,L2,zK m (.i S[i].fr) v') ⟨(next v' w' L' A1 A2 A3 A4 A5 A6 A7 (fun q hq=>(A8 q hq).2)).chk B1 B2 B3 B4 B5 (fun q hq=>(B6 q hq).2),fun q hq=>by simpa using (B6 q hq).1⟩) ⟨⟨rfl,ltb rfl⟩,⟨rfl,trivial⟩,⟨rfl,trivial⟩,⟨wsx (by omega),trivial⟩,trivial⟩ ⟨⟨rfl,by omega,Os.h _⟩,trivial⟩ (fun q hq=>by have:=(B6 q hq).1;simp at this;omega)
 ·rintro⟨w0,L,m⟩ ⟨hJ,hJL⟩
  simp only at hJ hJL ⊢
  refine Run.W1 (hc w0 L) ?_
  conv=>whnf
  rw[decide_eq_false (show ¬((S.length:Nat):Int)<(S.length:Int)by omega)]
  conv=>whnf
  refine⟨fun ρ w' hW _=> ?_⟩
  obtain⟨_,_,hk,hm⟩:=hW.mem 1 _ rfl
  rcases hm with⟨h0,h1⟩|⟨h0,_⟩
  case inr=>cases h0
  have hlt:=(Array.getElem?_eq_some_iff.1 h1).1
  have hb:w.heap.size≤ρ.s 1:=by
   rcases hW.new 1 _ rfl h0 with⟨p,hp,he⟩|h
   ·rw[←he];exact(hJ.lid p hp)
   ·have h:w0.heap.size≤ρ.s 1:=h
    have:=hJ.ext.size;omega
  refine⟨ρ.s 1,by show Ending.returned (.map (if ρ.o 1=0 then some (ρ.s 1)else none))=_;rw[if_pos h0],⟨fun k hk=> ?_,Nat.le_trans hJ.ext.size hW.size,hW.os.trans hJ.ext.os,hW.tape.trans hJ.ext.tape,hW.output.trans hJ.ext.output⟩,⟨hb,hlt⟩,m,h1,hk,fun k=> ?_⟩
  ·rw[hW.keep k (show k<w0.heap.size by have:=hJ.ext.size;omega) (fun p hp=>by have:=(hJ.lid p hp);omega)]
   exact hJ.ext.keep k hk
  ·have ho:=hJ.own k
   rw[List.take_length]at ho
   refine⟨ho.1,?_⟩
   show ∃p c,kval m k=_∧_
   rcases ho.2 with⟨h2,h3⟩|⟨g,cap,cur,h2,h3,h4,h5,h6,h7,h8⟩
   ·exact⟨none,0,by show kval m k = .slice none (zH S k).length 0;rw[h2,h3],by show(zH S k).length≤0;omega,.inl h3⟩
   ·have hg:(kval m k).ownBlock=some g:=by rw[h2];rfl
    have hgl:=((hJ.own k).lt g hg).2
    refine⟨some ⟨g,0,none⟩,cap,h2,h5,.inr ⟨g,0,rfl,⟨h3,Nat.lt_of_lt_of_le hgl hW.size⟩,fun j x hj=> ?_⟩⟩
    have hj':=ho.cells (g:=g) (by rw[h2];rfl) j x hj
    rw[zV]at hj'
    rw[World.cell?_of_block (hW.keep g hgl (hJ.off k g hg))]
    exact hj'
end Go.Proofs.Ytnnlpdgnlccbjaa
namespace Go.Sx
theorem Run.raw {c:Cx}{T:List (Nat×SV)}{M:List (Nat×SObj)}{n:Nat}{D:List Deferred}{todo:List Item}{R:Ending→World→Prop}
  (h :∀ ρ w',WI c.w0 c.L ρ (look M) (· < n) w'→Run { c with w0:=w',L:=[] } ⟨T.map fun x=>(x.1,.v (x.2.conc ρ)),[],0,D,todo⟩ R):Run c ⟨T,M,n,D,todo⟩ R:=by
 refine⟨fun ρ a w hi=>(h ρ w hi.wi).go ρ a w ⟨hi.sz,fun t v ht=> ?_,hi.df,WI.start w ρ⟩⟩
 have hl:=look_map (fun y:SV=>SV.v (y.conc ρ)) T t
 simp only at ht
 rw[hl]at ht
 cases hy:look T t with
 |none=>rw[hy]at ht;cases ht
 |some y=>
  rw[hy]at ht
  obtain rfl:SV.v (y.conc ρ)=v:=by simpa using ht
  obtain⟨g1,g2,_⟩:=hi.tm t y hy
  exact⟨g1,g2,trivial⟩
section
variable {c:Cx} {T:List (Nat×SV)} {M:List (Nat×SObj)} {n:Nat} {D:List Deferred} {ops:Array Oper} {i:Nat} {r:List Nat} {k:List Item} {R:Ending→World→Prop} {o:Oper}
theorem Run.indexW (hc:c.ok){t:TypeId}{x y:Operand}(ho:get ops.toList i=some o)(hop:o.op = .indexAddr t x y)(hw:zQ ops.toList (look T) o=some true)(hd:okD c.fn.ntmps o.dst=true)
  {blk off len cap sz:Nat} {kk:IntKind} {j:Int} (m:Nat) (hx:ev (look T) x=some (.v (.slice (some ⟨blk,off,none⟩) len cap))) (hy:ev (look T) y=some (.v (.int kk j))) (hj:j=(m:Int)) (hm:m<len)
  {ti:TI} {te:TypeId} {bytes:Nat} (hti:look c.tab t=some ti) (hsh:ti.sh = .slc te sz bytes)
  (h:Run c ⟨z5 T o.dst (.v (.pointer (some ⟨blk,off+m*sz,none⟩))),M,n,D,.inRegion ops r::k⟩ R):Run c ⟨T,M,n,D,.inRegion ops (i::r)::k⟩ R:=by
 subst hj
 refine⟨fun ρ a w hi=> ?_⟩
 rw[q8,Array.getElem?_toList]at ho
 refine TW.op ho (zI hi.tm hw) ?_
 obtain⟨h1,_⟩:=qO hi.tm hx
 obtain⟨h2,_⟩:=qO hi.tm hy
 simp only[SV.conc]at h1 h2
 have hti:=Tab.ok_look hc.tab hti
 obtain⟨d,hd1,hd2⟩:=hti.desc
 obtain⟨inf,rfl,g2,g3,_⟩:=sh_desc.2.2.2.2.1 te sz bytes (hd2.trans hsh)
 have hm':(0:Int)≤(m:Int)∧(m:Int)<(len:Int):=by omega
 refine Oc.value (w':=w) (v:=.pointer (some ⟨blk,off+m*sz,none⟩)) (by simp[execOp,hop,Instr.indexAt,h1,h2,asIntOf,zS hd1,hm,kJ g2,g3,zV]) ?_
 exact h.go ρ _ w (hi.put hd (Env.agree.refl _ ρ) (Nat.le_refl _) (v:=.v (.pointer (some ⟨blk,off+m*sz,none⟩))) trivial hi.wi _)
theorem Run.loadW (hc:c.ok){t:TypeId}{x:Operand}(ho:get ops.toList i=some o)(hop:o.op = .load t x)(hw:zQ ops.toList (look T) o=some true)(hd:okD c.fn.ntmps o.dst=true)
  {blk off:Nat} (vs:List Value) (hx:ev (look T) x=some (.v (.pointer (some ⟨blk,off,none⟩)))) {ti:TI} (hti:look c.tab t=some ti) (hag:ti.sh.isAgg=true) (hL :∀p∈c.L,p.2≠blk) (hl:vs.length=ti.size) (h0:0<vs.length) (hv :∀j v,vs[j]? = some v→c.w0.cell? ⟨blk,off+j,none⟩=some v)
  (h:Run c ⟨z5 T o.dst (.agg (vs.map .v)),M,n,D,.inRegion ops r::k⟩ R):Run c ⟨T,M,n,D,.inRegion ops (i::r)::k⟩ R:=by
 refine⟨fun ρ a w hi=> ?_⟩
 rw[q8,Array.getElem?_toList]at ho
 refine TW.op ho (zI hi.tm hw) ?_
 obtain⟨h1,_⟩:=qO hi.tm hx
 simp only[SV.conc]at h1
 have hti:=Tab.ok_look hc.tab hti
 have hlt:=World.block_lt_of_cell? _ _ (hv 0 vs[0] (by simp))
 have hcell :∀j v,vs[j]? = some v→w.cell? ⟨blk,off+j,none⟩=some v:=fun j v hj=>by
  rw[World.cell?_of_block (hi.wi.keep blk hlt hL)];exact hv j v hj
 refine Oc.value (w':=w) (v:=.agg vs.toArray) (by simp[execOp,hop,Instr.loadAt,Instr.sureAddr,h1,x8 hti hag hl hcell]) ?_
 have e:(SV.agg (vs.map .v)).conc ρ = .agg vs.toArray:=by simp only[SV.conc,zN]
 have:=hi.put (ρ':=ρ) hd (Env.agree.refl _ ρ) (Nat.le_refl _) (v:=.agg (vs.map .v)) (qL _ _) hi.wi (.inRegion ops r::k)
 rw[e]at this
 exact h.go ρ _ w this
theorem Run.lookupV (hc:c.ok){x y:Operand}{t:TypeId}(ho:get ops.toList i=some o)(hop:o.op = .lookup t x y false)(hw:zQ ops.toList (look T) o=some true)(hd:okD c.fn.ntmps o.dst=true)
  {kt et:TypeId} {tk:TI} {z:Value} (hki:kinfo c.tab t=some (kt,tk,et,z)) {kv:SV} (hy:ev (look T) y=some kv) {key:Key} (hks:keyS tk kv=some key) {s:Nat} {m:List (Key×Value)} (hx:ev (look T) x=some (.v (.map (some s)))) (hm:c.w0.heap[s]? = some (yL m)) (hmk :∀x∈m,x.1.pair=key.pair) (hL :∀p∈c.L,p.2≠s)
  (h:Run c ⟨z5 T o.dst (.v ((zM m key).getD z)),M,n,D,.inRegion ops r::k⟩ R):Run c ⟨T,M,n,D,.inRegion ops (i::r)::k⟩ R:=by
 refine⟨fun ρ a w hi=> ?_⟩
 rw[q8,Array.getElem?_toList]at ho
 refine TW.op ho (zI hi.tm hw) ?_
 obtain⟨ht,hk,hz⟩:=kinfo_ok hc.tab hki
 obtain⟨k1,k2⟩:=keyS_ok hks
 obtain⟨h1,_⟩:=qO hi.tm hy
 rw[k1 ρ]at h1
 obtain⟨h2,_⟩:=qO hi.tm hx
 simp only[SV.conc]at h2
 have hlt:=(Array.getElem?_eq_some_iff.1 hm).1
 have hr:=uY (w:=w) (ρ:=ρ) ht hk hz k2 (l:=m) hmk (m:=some s) (.inr ⟨_,rfl,by rw[hi.wi.keep _ hlt hL];exact hm⟩) false
 simp only[kO,SV.conc]at hr
 refine Oc.value (w':=w) (v:=(zM m key).getD z) (by simp[execOp,hop,h1,h2,hr]) ?_
 exact h.go ρ _ w (hi.put hd (Env.agree.refl _ ρ) (Nat.le_refl _) (v:=.v ((zM m key).getD z)) trivial hi.wi _)
end
def IterN (P:Program)(g:FuncId)(caps:List Value)(I:World→Prop)(xs:List (List Value)):Prop:=
 ∀(l N0:Nat) (J:Nat→World→Prop),(∀i w w',J i w→Ext w w'→J i w')→(∀i w,J i w→I w∧N0≤w.heap.size) →
  (∀i w x,J i w→xs[i]? = some x→Yields P l x.toArray w fun b w'=>b=true∧J (i+1) w'∧w.heap.size≤w'.heap.size ∧ ∀k,N0≤k→k<w.heap.size→w'.heap[k]? = w.heap[k]?) →
  ∀w,J 0 w→Calls P g (#[.func (.yield l) #[] #[]]++caps.toArray) w fun e w'=>(∃v,e = .returned v)∧J xs.length w'
theorem WI.enterN {w0 w:World}{L:List (Nat×Nat)}{ρ:Env}{M:List (Nat×SObj)}{n:Nat}(hW:WI w0 L ρ (look M) (· < n) w)(is:List Nat)(hM :∀x∈M,look M x.1=some x.2∧(x.2.wnd=true∨x.1∈is)∧(x.2.wnd=true→x.1∉is)) :
  ∃L',(∀p∈L',p.1∈is∧p.2=ρ.s p.1 ∧ ∃o,look M p.1=some o∧o.occ ρ p.1)∧(∀i∈is,∀o,look M i=some o→o.occ ρ i→(i,ρ.s i)∈L')∧WI w L' ρ (look M) (· < n) w:=by
 classical
 let L':List (Nat×Nat):=(is.filter fun i=>decide (∃o,look M i=some o∧o.occ ρ i)).map fun i=>(i,ρ.s i)
 have hL' :∀p∈L',p.1∈is∧p.2=ρ.s p.1 ∧ ∃o,look M p.1=some o∧o.occ ρ p.1:=by
  intro p hp
  obtain⟨i,hi,rfl⟩:=List.mem_map.1 hp
  obtain⟨h1,h2⟩:=List.mem_filter.1 hi
  exact⟨h1,rfl,of_decide_eq_true h2⟩
 have hin :∀i∈is,∀o,look M i=some o→o.occ ρ i→(i,ρ.s i)∈L':=fun i hi o ho hocc=>List.mem_map.2 ⟨i,List.mem_filter.2 ⟨hi,decide_eq_true ⟨o,ho,hocc⟩⟩,rfl⟩
 refine⟨L',hL',hin,?_⟩
 have hid:ρ.ren id=ρ:=rfl
 have h:=hW.again ((Ext.refl w).modF fun _=>False) id L' M n (fun p hp=> ?_) (fun x hx=> ?_) (fun _ _ _ _ h=>h)
 ·rw[hid]at h;exact h
 ·obtain⟨h1,h2,o,h3,h4⟩:=hL' p hp
  exact⟨(hW.mem _ _ h3).1,h2,⟨_,qF h3,rfl⟩,o,h3,h4⟩
 ·obtain⟨h1,h2,h3⟩:=hM x hx
  obtain⟨g1,g2,_⟩:=hW.mem _ _ h1
  refine⟨g1,g2,fun ho=> ?_,x.2,h1,by rw[qC];exact .inl rfl,?_,fun hwd p hp he=>h3 hwd (by rw[←he];exact(hL' p hp).1)⟩
  ·rw[hid]at ho
   rcases h2 with h5|h5
   ·exfalso
    cases hx2:x.2<;>rw[hx2]at h5 ho<;>first|cases h5;done|exact ho.elim
   ·exact⟨_,hin x.1 h5 _ h1 ho,rfl⟩
  ·cases x.2<;>simp[SObj.away]
theorem oren_on {S:Nat→Prop}{r:Nat→Nat}(h :∀i,S i→r i=i){o:SObj}(ho:o.sc S):o.ren r=o:=by
 cases o with
 |cells cs t=>simp only[SObj.ren];rw[qY h cs ho]
 |row e n xs t=>simp only[SObj.ren];rw[qY h xs ho]
 |mid pre post cs t=>simp only[SObj.ren];rw[qY h cs ho]
 |pin l=>
  simp only[SObj.ren]
  congr 1
  have:l.map (fun p=>(r p.1,p.2))=l.map id:=List.map_congr_left fun p hp=>by simp[h _ (ho p hp)]
  rw[this,List.map_id]
 |_=>rfl
theorem Run.rangeX {c:Cx}(hrd:c.rd=none){T T0:List (Nat×SV)}{M:List (Nat×SObj)}{n:Nat}{k:List Item}{R:Ending→World→Prop}{x:Operand}{params:Array Tmp}{assign body:Code}{g:FuncId}{caps:List SV}{fv:SV}
  (hx:ev (look T) x=some fv) (hfv:zW fv=some (g,caps)) (hg:zU c.P g) (Mi:Nat→List (Nat×SObj)) (is:List Nat) (xs:List (List Value))
  (hp:params.toList.Nodup) (hp2 :∀t∈params.toList,t<c.fn.ntmps) (hxs :∀v∈xs,v.length=params.size)
  (hT0 :∀y∈T0,look T y.1=some y.2) (hM0 :∀y∈Mi 0,look M y.1=some y.2)
  (hMi :∀i,∀y∈Mi i,look (Mi i) y.1=some y.2∧y.1<n∧y.2.sc (· < n+2)∧(y.2.wnd=true∧y.1∉is∧(∀j,look (Mi j) y.1=some y.2)∨y.2.wnd=false∧y.1∈is ∧ ∃o0,look (Mi 0) y.1=some o0 ∧ ∀ ρ,y.2.occ ρ y.1→o0.occ ρ y.1)) (hisn :∀i∈is,i<n)
  (I:Env→World→World→Prop) (hit :∀ ρ w,WI c.w0 c.L ρ (look M) (· < n) w→IterN c.P g (SV.concs ρ caps) (I ρ w) xs)
  (hI :∀ ρ w i L' ρ' a d w',WI c.w0 c.L ρ (look M) (· < n) w→Widens c.w0 c.L L'→WI c.w0 L' ρ' (look (inLoop n a c.f params assign body d (Mi i))) (· < n+2) w'→Env.agree (· < n) ρ ρ'→I ρ w w')
  (hround :∀i v,xs[i]? = some v → ∀w1 L1 l a d pl,(∀p∈L1,p.1=n+1∨p.1=n∨p.1∈is)→(n+1,l)∈L1→jW (n+2) pl→Run { c with w0:=w1,L:=L1,rd:=some (n+1,l) } ⟨params.toList.zip (v.map .v)++T0,(n+2,.pin pl)::inLoop n a c.f params assign body d (Mi i),n+3,[],[.code assign,.beginRound,.code body]⟩
   (fun e w'=>e = .returned (.bool true) ∧ ∃ ρ,WI w1 L1 ρ (look ((n+2,.pin pl)::inLoop n a c.f params assign body d (Mi (i+1)))) (· < n+3) w'))
  (hafter :∀L' a d,Widens c.w0 c.L L'→(n,d)∈L'→(∀p∈L',p.1=n+1∨p.1=n∨p∈c.L)→Run { c with L:=L' } ⟨T0,(n+1,.obj (.loop { jD a c.f params assign body d with state:=.exhausted }))::inLoop n a c.f params assign body d (Mi xs.length),n+2,[{ target:=.collected d,args:= #[] }],k⟩ R) :
  Run c ⟨T,M,n,[],.code (.rangeFunc x params assign body)::k⟩ R:=by
 refine⟨fun ρ a w hi=> ?_⟩
 have hrr:c.rr=none:=by simp[Cx.rr,hrd]
 rw[hrr]
 obtain⟨h1,h2⟩:=qO hi.tm hx
 obtain⟨h3,h4⟩:=x7 (ρ:=ρ) (S:=(· < n)) hfv
 refine TW.rangeFunc hg (h1.trans h3) ?_
 obtain⟨hW1,ha1⟩:=hi.wi.alloc (i:=n) (Nat.lt_irrefl n) (o:=.obj (.deferred (some []))) (x:=.deferred (some [])) trivial (fun ρ' w' _ hs _ hh=>⟨fun _ _ _=>by simp,by rw[hs];exact hh⟩)
 obtain⟨hW2,ha2⟩:=hW1.alloc (i:=n+1) (by simp) (o:=.obj (.loop (jD a c.f params assign body w.heap.size))) (x:=.loop (jD a c.f params assign body w.heap.size)) trivial (fun ρ' w' _ hs _ hh=>⟨fun _ _ _=>by simp,by rw[hs];exact hh⟩)
 have hag2:Env.agree (· < n) ρ ((ρ.bind n w.heap.size).bind (n+1) (w.alloc (.deferred (some []))).heap.size):=ha1.trans ha2 fun _ h=>.inl h
 generalize hρ:((ρ.bind n w.heap.size).bind (n+1) (w.alloc (.deferred (some []))).heap.size)=ρ2 at hW2 ha2 hag2
 have hl:ρ2.s (n+1)=w.heap.size+1:=by subst hρ;simp[Env.bind]
 have hd:ρ2.s n=w.heap.size:=by subst hρ;simp[Env.bind]
 have hW:WI c.w0 c.L ρ2 (look (inLoop n a c.f params assign body w.heap.size M)) (· < n+2) (World.loop w a c.f params assign body):=by
  simp only[inLoop,qX]
  exact hW2.mono fun j hj=>by have hj:(j<n∨j=n)∨j=n+1:=hj;omega
 let L':List (Nat×Nat):=(n+1,w.heap.size+1)::(n,w.heap.size)::c.L
 have hL' :∀p∈L',p.1=n+1∨p.1=n∨p∈c.L:=by
  intro p hp
  simp only[L',List.mem_cons]at hp
  rcases hp with rfl|rfl|hp
  ·exact .inl rfl
  ·exact .inr (.inl rfl)
  ·exact .inr (.inr hp)
 have hwid:Widens c.w0 c.L L':=⟨fun p hp=>by simp[L',hp],fun p hp=>by
  simp only[L',List.mem_cons]at hp
  have:=hi.wi.size
  rcases hp with rfl|rfl|hp
  ·right;show c.w0.heap.size≤w.heap.size+1;omega
  ·right;exact this
  ·exact .inl ⟨p,hp,rfl⟩⟩
 have hWL:=hW.widen hwid (fun p hp=>by
  simp only[L',List.mem_cons]at hp
  rcases hp with rfl|rfl|hp
  ·exact⟨by show n+1<n+2;omega,hl⟩
  ·exact⟨by show n<n+2;omega,hd⟩
  ·exact hW.lid p hp)
 have hlk :∀i j,j<n→look (inLoop n a c.f params assign body w.heap.size (Mi i)) j=look (Mi i) j:=fun i j hj=>by
  rw[inLoop,qP,if_neg (by omega),qP,if_neg (by omega)]
 have hW0:WI c.w0 L' ρ2 (look (inLoop n a c.f params assign body w.heap.size (Mi 0))) (· < n+2) (World.loop w a c.f params assign body):=by
  have hsub :∀j o,look (inLoop n a c.f params assign body w.heap.size (Mi 0)) j=some o→look (inLoop n a c.f params assign body w.heap.size M) j=some o:=by
   intro j o hj
   rw[inLoop,qP]at hj ⊢
   split at hj
   ·rename_i e;rw[if_pos e];exact hj
   ·rename_i e
    rw[if_neg e]
    rw[qP]at hj ⊢
    split at hj
    ·rename_i e2;rw[if_pos e2];exact hj
    ·rename_i e2
     rw[if_neg e2]
     exact hM0 _ (qF hj)
  exact⟨fun j o hj=>hWL.mem j o (hsub j o hj),fun j j' o o' hj hj'=>hWL.dist j j' o o' (hsub j o hj) (hsub j' o' hj'),fun j o hj=>hWL.new j o (hsub j o hj),hWL.lid,hWL.keep,hWL.size,hWL.os,hWL.tape,hWL.output⟩
 let W0:World:=World.loop w a c.f params assign body
 let J:Nat→World→Prop:=fun i w'=> ∃ ρ',WI c.w0 L' ρ' (look (inLoop n a c.f params assign body w.heap.size (Mi i))) (· < n+2) w'∧Env.agree (· < n+2) ρ2 ρ'∧W0.heap.size≤w'.heap.size
 have hTm :∀(ρ':Env),Env.agree (· < n+2) ρ2 ρ' → ∀t v,look T0 t=some v→t<a.tmps.size∧a.tmps.getD t undef=v.conc ρ'∧v.sc (· < n):=by
  intro ρ' hag t v ht
  obtain⟨g1,g2,g3⟩:=hi.tm t v (hT0 _ (qF ht))
  have hag':Env.agree (· < n) ρ ρ':=hag2.trans (hag.mono (fun j (hj:j<n)=>by show j<n+2;omega)) fun _ h=>h
  exact⟨g1,by rw[zY hag' v g3];exact g2,g3⟩
 have hcalls:=hit ρ w hi.wi (w.heap.size+1) W0.heap.size J (fun i w1 w2 ⟨ρ',h,hag,hs⟩ he=>⟨ρ',h.ext he,hag,Nat.le_trans hs he.size⟩)
  (fun i w1 ⟨ρ',h,hag,hs⟩=>⟨hI ρ w i L' ρ' a w.heap.size w1 hi.wi hwid h (hag2.trans (hag.mono (fun j (hj:j<n)=>by show j<n+2;omega)) fun _ h=>h),hs⟩) ?_ _ ⟨ρ2,hW0,Env.agree.refl _ _,Nat.le_refl _⟩
 ·refine hcalls.mono fun e w' ⟨⟨v,he⟩,ρ',hW',hag,hs⟩=>⟨v,he,?_⟩
  have e1:ρ'.s (n+1)=w.heap.size+1:=(hW'.lid (n+1,w.heap.size+1) (by simp[L'])).2
  have hm:(look (inLoop n a c.f params assign body w.heap.size (Mi xs.length))) (n+1)=some (.obj (.loop (jD a c.f params assign body w.heap.size))):=by
   rw[inLoop,qP,if_pos rfl]
  obtain⟨_,_,_,hh⟩:=hW'.mem _ _ hm
  rw[e1]at hh
  refine TW.endLoop hh (by simp[jD]) rfl ?_
  have hW3:=hW'.putO (o':=.loop { jD a c.f params assign body w.heap.size with state:=.exhausted }) hm (fun _ _ _=>by simp)
  rw[e1]at hW3
  have hrun:=(hafter L' a w.heap.size hwid (by simp[L']) hL').go ρ' (xQ w a) _ ⟨hi.sz,fun t v ht=>⟨(hTm ρ' hag t v ht).1,(hTm ρ' hag t v ht).2.1,SV.sc_mono (fun j (hj:j<n)=>by show j<n+2;omega) _ (hTm ρ' hag t v ht).2.2⟩,?_,by rw[qX];exact hW3⟩
  ·have hrr':({ c with L:=L' }:Cx).rr=none:=hrr
   rw[hrr']at hrun
   exact hrun
  ·simp only[xQ,hi.df]
 ·intro i w' v ⟨ρ',hW',hag,hs⟩ hv
  have e1:ρ'.s (n+1)=w.heap.size+1:=(hW'.lid (n+1,w.heap.size+1) (by simp[L'])).2
  have hm:(look (inLoop n a c.f params assign body w.heap.size (Mi i))) (n+1)=some (.obj (.loop (jD a c.f params assign body w.heap.size))):=by
   rw[inLoop,qP,if_pos rfl]
  obtain⟨_,_,_,hh⟩:=hW'.mem _ _ hm
  rw[e1]at hh
  have hlen:v.length=params.size:=hxs v (List.mem_of_getElem? hv)
  refine⟨_,hh,by simpa[jD]using hlen,?_⟩
  have hfold:xE (jD a c.f params assign body w.heap.size) v.toArray=(params.toList.zip v).foldl (fun tmps (p:Nat×Value)=>tmps.setIfInBounds p.1 p.2) a.tmps:=by
   simp only[xE,jD]
   rw[←Array.foldl_toList]
   simp
  have hnin:n+1∉is∧n∉is:=⟨fun h=>by have:=hisn _ h;omega,fun h=>by have:=hisn _ h;omega⟩
  have hmem :∀i,∀y∈inLoop n a c.f params assign body w.heap.size (Mi i),look (inLoop n a c.f params assign body w.heap.size (Mi i)) y.1=some y.2∧(y.2.wnd=true∨y.1∈(n+1)::n::is)∧(y.2.wnd=true→y.1∉(n+1)::n::is):=by
   intro i y hy
   simp only[inLoop,List.mem_cons]at hy
   rcases hy with rfl|rfl|hy
   ·exact⟨by rw[inLoop,qP,if_pos rfl],.inr (by simp),fun h=>by cases h⟩
   ·exact⟨by rw[inLoop,qP,if_neg (by omega),qP,if_pos rfl],.inr (by simp),fun h=>by cases h⟩
   ·obtain⟨m1,m2,_,m3⟩:=hMi i y hy
    refine⟨by rw[hlk i _ m2];exact m1,?_,fun hwd=> ?_⟩
    ·rcases m3 with⟨g1,_⟩|⟨_,g2,_⟩
     ·exact .inl g1
     ·exact .inr (by simp[g2])
    ·rcases m3 with⟨_,g2,_⟩|⟨g1,_⟩
     ·simp only[List.mem_cons,not_or];exact⟨by omega,by omega,g2⟩
     ·rw[g1]at hwd;cases hwd
  obtain⟨L1,hL1,hL1in,hWr⟩:=hW'.enterN ((n+1)::n::is) (hmem i)
  have hold :∀p∈L1,p.2<W0.heap.size:=by
   intro p hp
   obtain⟨g1,g2,o,g3,g4⟩:=hL1 p hp
   have hpn:=(hW'.mem _ _ g3).1
   rw[g2,(hag p.1 hpn).1]
   simp only[List.mem_cons]at g1
   have hW0s:W0.heap.size=w.heap.size+2:=by simp[W0,World.loop]
   rcases g1 with e|e|g1
   ·rw[e,hl];omega
   ·rw[e,hd];omega
   ·have hlt:=hisn _ g1
    rw[hlk i _ hlt]at g3
    obtain⟨_,_,_,m3⟩:=hMi i _ (qF g3)
    rcases m3 with⟨_,n2,_⟩|⟨_,_,o0,n3,n4⟩
    ·exact absurd g1 n2
    ·have hocc0:o0.occ ρ2 p.1:=(SObj.rA hag hpn).1 (n4 ρ' g4)
     exact SObj.rE (hW0.mem p.1 o0 (by rw[hlk 0 _ hlt];exact n3)).2.2 hocc0
  let pl:List (Nat×Nat×Nat×(Option Addr×Nat×Nat)):=(List.range (n+2)).map fun i=>(i,ρ'.s i,ρ'.o i,ρ'.h i)
  have hcov:jW (n+2) pl:=⟨fun p hp=>by
   obtain⟨i,hi,rfl⟩:=List.mem_map.1 hp
   exact List.mem_range.1 hi,fun i hi=>⟨_,List.mem_map.2 ⟨i,List.mem_range.2 hi,rfl⟩⟩⟩
  have hpl :∀p∈pl,ρ'.s p.1=p.2.1∧ρ'.o p.1=p.2.2.1∧ρ'.h p.1=p.2.2.2:=fun p hp=>by
   obtain⟨i,hi,rfl⟩:=List.mem_map.1 hp
   exact⟨rfl,rfl,rfl⟩
  have hWp:WI w' L1 ρ' (look ((n+2,.pin pl)::inLoop n a c.f params assign body w.heap.size (Mi i))) (· < n+3) w':=by
   rw[qX]
   have:=hWr.addR (i:=n+2) (Env.agree.refl _ ρ') (o:=.pin pl) hcov.1 (fun _ _ h=>h) hpl
   exact this.mono fun j hj=>by have hj:j<n+2∨j=n+2:=hj;omega
  have hlin:(n+1,w.heap.size+1)∈L1:=by
   have:=hL1in (n+1) (by simp) _ hm trivial
   rwa [e1]at this
  have hrun:=(hround i v hv w' L1 (w.heap.size+1) a w.heap.size pl (fun p hp=>by have:=(hL1 p hp).1;simpa using this) hlin hcov).go ρ' { tmps:=xE (jD a c.f params assign body w.heap.size) v.toArray,defers:=[] } w' ⟨?_,?_,rfl,hWp⟩
  ·refine hrun.mono fun e w2 ⟨he,ρ3,hC⟩=>⟨true,he,rfl,?_,hC.size,fun kk h1 h2=>hC.keep kk h2 fun p hp he=>by have:=hold p hp;omega⟩
   have hagC:Env.agree (· < n+2) ρ' ρ3:=t4 hcov hpl (hC.mem (n+2) (.pin pl) (by rw[qP,if_pos rfl])).2.2
   have hlidn :∀p∈L1,p.1<n+2:=fun p hp=>by
    obtain⟨_,_,o,g3,_⟩:=hL1 p hp
    exact(hW'.mem _ _ g3).1
   have hlk2 :∀j,j<n+2→look ((n+2,SObj.pin pl)::inLoop n a c.f params assign body w.heap.size (Mi (i+1))) j=look (inLoop n a c.f params assign body w.heap.size (Mi (i+1))) j:=fun j hj=>by
    rw[qP,if_neg (by omega)]
   have hscC :∀j o,look (inLoop n a c.f params assign body w.heap.size (Mi (i+1))) j=some o→j<n+2∧o.sc (· < n+2):=by
    intro j o hj
    have:=qF hj
    simp only[inLoop,List.mem_cons]at this
    rcases this with h|h|h
    ·simp only[Prod.mk.injEq]at h;obtain⟨rfl,rfl⟩:=h;exact⟨by omega,Os.h _⟩
    ·simp only[Prod.mk.injEq]at h;obtain⟨rfl,rfl⟩:=h;exact⟨by omega,Os.h _⟩
    ·obtain⟨_,q1,q2,_⟩:=hMi (i+1) _ h
     exact⟨by simp only at q1;omega,q2⟩
   obtain⟨hM2,hagM⟩:=hW'.mergeP (Nat.le_refl _) hC (show n+2≤n+3 by omega) hagC (fun p hp=>⟨hlidn p hp,(hL1 p hp).2.2⟩) (inLoop n a c.f params assign body w.heap.size (Mi (i+1))) (fun y hy=>by
    obtain⟨m1,m2,m3⟩:=hmem (i+1) y hy
    cases hwd:y.2.wnd with
    |true=>
     left
     have hni:=m3 hwd
     refine⟨?_,fun p hp he=>hni (by rw[←he];exact(hL1 p hp).1)⟩
     simp only[List.mem_cons,not_or]at hni
     simp only[inLoop,List.mem_cons]at hy
     rcases hy with rfl|rfl|hy
     ·exact absurd rfl hni.1
     ·exact absurd rfl hni.2.1
     ·obtain⟨_,g2,_,g3⟩:=hMi (i+1) y hy
      rw[hlk i _ g2]
      rcases g3 with⟨_,_,g4⟩|⟨g4,_⟩
      ·exact g4 i
      ·rw[g4]at hwd;cases hwd
    |false=>
     right
     obtain⟨g1,g2⟩:=hscC y.1 y.2 m1
     refine⟨y.1,y.2,yY g1,by rw[hlk2 _ g1];exact m1,?_,hwd⟩
     exact(oren_on (S:=(· < n+2)) (fun j (hj:j<n+2)=>yY hj) g2).symm)
   have hid:(ρ'.join (n+2) (n+2) ρ3).ren id=ρ'.join (n+2) (n+2) ρ3:=rfl
   have hfin:WI c.w0 L' (ρ'.join (n+2) (n+2) ρ3) (look (inLoop n a c.f params assign body w.heap.size (Mi (i+1)))) (· < n+2) w2:=by
    rw[←hid]
    refine WI.less (r:=id) ⟨fun y hy=> ?_,fun _ _ _ _ h=>h,fun p hp=>⟨rfl,(hW'.lid p hp).1⟩⟩ hM2
    obtain⟨m1,_,_⟩:=hmem (i+1) y hy
    obtain⟨g1,g2⟩:=hscC y.1 y.2 m1
    rw[qC]
    exact⟨m1,g1,g2⟩
   exact⟨_,hfin,hag.trans hagM fun _ h=>h,Nat.le_trans hs hC.size⟩
  ·rw[hfold,uW];exact hi.sz
  ·have hsz:a.tmps.size=c.fn.ntmps:=hi.sz
   have hzip :∀p∈params.toList.zip v,p.1<a.tmps.size:=fun p hpp=>by rw[hsz];exact hp2 _ (List.of_mem_zip hpp).1
   have hnd:((params.toList.zip v).map (·.1)).Nodup:=by
    rw[List.map_fst_zip (by simp[hlen])]
    exact hp
   intro t x ht
   rw[hfold,uW,foldl_get _ _ _ hnd hzip]
   have hz:params.toList.zip (v.map SV.v)=(params.toList.zip v).map fun p=>(p.1,SV.v p.2):=by
    rw[List.zip_map_right];rfl
   rw[sO,hz,look_map]at ht
   cases hq:look (params.toList.zip v) t with
   |some y=>
    rw[hq]at ht
    obtain rfl:SV.v y=x:=by simpa using ht
    exact⟨hzip _ (qF hq),rfl,trivial⟩
   |none=>
    rw[hq]at ht
    obtain⟨g1,g2,g3⟩:=hTm ρ' hag t x (by simpa using ht)
    exact⟨g1,g2,SV.sc_mono (fun j (hj:j<n)=>by show j<n+3;omega) _ g3⟩
end Go.Sx
namespace Go.Proofs.Ytnnlpdgnlccbjaa
open Go.Sx
set_option maxRecDepth 100000
set_option maxHeartbeats 4000000
structure WRaw (S:List Syn) (b1 s:Nat) (m:List (Key×Value)) (w:World):Prop where
 box:w.cell? ⟨b1,0,none⟩=some (.map (some s))
 map:w.heap[s]? = some (yL m)
 key :∀x∈m,x.1.pair=false
 row :∀k,RowIn w (fun _=>True) (kval m k) 4 (zH S k).length ((zH S k).flatMap Syn.vals)
structure YFrame (N0:Nat) (w w':World):Prop where
 size:w.heap.size≤w'.heap.size
 keep :∀k,N0≤k→k<w.heap.size→w'.heap[k]? = w.heap[k]?
theorem YFrame.refl (N0:Nat)(w:World):YFrame N0 w w:=⟨Nat.le_refl _,fun _ _ _=>rfl⟩
theorem YFrame.trans {N0:Nat}{a b c:World}(h:YFrame N0 a b)(k:YFrame N0 b c):YFrame N0 a c:=⟨Nat.le_trans h.size k.size,fun i h1 h2=>(k.keep i h1 (Nat.lt_of_lt_of_le h2 h.size)).trans (h.keep i h1 h2)⟩
theorem YFrame.ext {N0:Nat}{a b:World}(h:Ext a b):YFrame N0 a b:=⟨h.size,fun i _ h2=>h.keep i h2⟩
theorem YFrame.cell {N0:Nat}{a b:World}(h:YFrame N0 a b){q:Nat}(hq:N0≤q){off:Nat}{v:Value}(hc:a.cell? ⟨q,off,none⟩=some v):b.cell? ⟨q,off,none⟩=some v:=by
 have hlt:=World.block_lt_of_cell? _ _ hc
 rw[World.cell?_of_block (h.keep q hq hlt)];exact hc
theorem syn_cells {S:List Syn}{j t:Nat}{v:Value}(hj:j<S.length)(h:S[j].vals[t]? = some v):(S.flatMap Syn.vals)[j*4+t]? = some v:=by
 have ht:t<4:=by
  rcases Nat.lt_or_ge t S[j].vals.length with h'|h'
  ·simpa[Syn.vlen]using h'
  ·rw[List.getElem?_eq_none h']at h;cases h
 rw[←q8,gK (f:=Syn.vals) Syn.vlen hj ht,q8];exact h
theorem each_run (S:List Syn)(hS:S.length≤8192)(b1 s:Nat)(m:List (Key×Value))(l N0:Nat)(J:Nat→World→Prop)(xs:List (List Value))(hext :∀i w w',J i w→Ext w w'→J i w')(hJ :∀i w,J i w→WRaw S b1 s m w∧N0≤w.heap.size)
  (hy :∀i w x,J i w→xs[i]? = some x→Sx.Yields Try.prog l x.toArray w fun b w'=>b=true∧J (i+1) w'∧w.heap.size≤w'.heap.size ∧ ∀k,N0≤k→k<w.heap.size→w'.heap[k]? = w.heap[k]?)
  (a:Int) (k:Nat) (hx :∀j (h:j<(zH S a).length),xs[k+j]? = some [.agg (zH S a)[j].vals.toArray]) (b2:Nat) (hb2:N0≤b2) (w:World) (hw:J k w) (hc2:w.cell? ⟨b2,0,none⟩=some (.func (.yield l) #[] #[])) :
  Calls Try.prog 107 #[.int .i64 a,.pointer (some ⟨b1,0,none⟩),.pointer (some ⟨b2,0,none⟩)] w fun e w'=>e = .returned (.bool true)∧J (k+(zH S a).length) w'∧YFrame N0 w w':=by
 have hc :∀w0,Cx.ok ⟨Try.prog,tab,[],107,Try.f107,[],w0,[],none⟩:=fun w0=>⟨qI,trivial,Try.func107,mixed,fun _ h=>by cases h⟩
 obtain⟨hr,hN⟩:=hJ k w hw
 obtain⟨_,p,cp,hv,_,_⟩:=hr.row a
 have hlen:(zH S a).length≤8192:=Nat.le_trans (List.length_filter_le ..) hS
 refine Run.s9 (tab:=tab) (pf:=[]) (cuts:=[]) mixed qI trivial Try.func107 rfl [ii a,.v (.pointer (some ⟨b1,0,none⟩)),.v (.pointer (some ⟨b2,0,none⟩))] 1000 (by simp[SV.scs,SV.sc]) rfl ?_
 conv=>whnf
 refine Run.loadV (hc w) rfl rfl rfl rfl rfl rfl rfl (fun p hp=>by cases hp) hr.box ?_
 refine Run.W1 (hc w) ?_
 conv=>whnf
 refine Run.lookupV (hc w) rfl rfl rfl rfl rfl rfl rfl (key:=.i a) rfl hr.map hr.key (fun p hp=>by cases hp) ?_
 rw[show(zM m (.i a)).getD (.slice none 0 0) = .slice p (zH S a).length cp from hv]
 refine Run.W1 (hc w) ?_
 conv=>whnf
 refine Run.s6 (T':=[(2,.v (.pointer (some ⟨b2,0,none⟩))),(9,.v (.slice p (zH S a).length cp)),(10,ii ((zH S a).length:Int)),(11,ii ((0:Nat):Int))]) (M':=[]) 0 ⟨⟨rfl,trivial⟩,⟨rfl,trivial⟩,⟨rfl,trivial⟩,⟨rfl,trivial⟩,trivial⟩ trivial (fun p hp=>by cases hp) ?_
 refine Run.upToW (fun w1:World=>(⟨Try.prog,tab,[],107,Try.f107,[],w1,[],none⟩:Cx)) (T:=fun j _=>[(2,.v (.pointer (some ⟨b2,0,none⟩))),(9,.v (.slice p (zH S a).length cp)),(10,ii ((zH S a).length:Int)),(11,ii ((j:Nat):Int))]) (M:=fun _ _=>[]) (fun j w1=>J (k+j) w1∧YFrame N0 w w1) (zH S a).length w ⟨hw,YFrame.refl _ _⟩ ?_ ?_
 ·rintro j w1 hj ⟨hJ1,hF1⟩ ih
  obtain⟨hr1,hN1⟩:=hJ _ _ hJ1
  refine Run.W1 (hc w1) ?_
  conv=>whnf
  rw[decide_eq_true (show((j:Nat):Int)<((zH S a).length:Int)by omega)]
  conv=>whnf
  obtain⟨_,p',cp',hv',_,hcells⟩:=hr1.row a
  rw[hv]at hv'
  obtain⟨rfl,_,rfl⟩:p=p'∧(zH S a).length=(zH S a).length∧cp=cp':=by simpa using hv'
  rcases hcells with h0|⟨blk,off,rfl,_,hcells⟩
  ·omega
  refine Run.indexW (hc w1) rfl rfl rfl rfl j rfl rfl rfl hj rfl rfl ?_
  refine Run.loadW (hc w1) rfl rfl rfl rfl (zH S a)[j].vals rfl rfl rfl (fun p hp=>by cases hp) rfl (Nat.zero_lt_succ 3) (fun t v ht=> ?_) ?_
  ·rw[Nat.add_assoc];exact hcells _ _ (syn_cells hj ht)
  refine Run.W1 (hc w1) ?_
  conv=>whnf
  refine Run.loadV (hc w1) rfl rfl rfl rfl rfl rfl rfl (fun p hp=>by cases hp) (hF1.cell hb2 hc2) ?_
  refine Run.W1 (hc w1) ?_
  conv=>whnf
  refine Run.callY rfl rfl rfl rfl rfl rfl (fun ρ w2 hW=> ?_)
  have hE:=hW.toExt
  refine(hy (k+j) w2 _ (hext _ _ _ hJ1 hE) (hx j hj)).mono fun b w3 ⟨hb,hJ3,hs3,hk3⟩=> ?_
  subst hb
  have hF3:YFrame N0 w w3:=hF1.trans ((YFrame.ext hE).trans ⟨hs3,hk3⟩)
  refine⟨[(2,.v (.pointer (some ⟨b2,0,none⟩))),(9,.v (.slice (some ⟨blk,off,none⟩) (zH S a).length cp)),(10,ii ((zH S a).length:Int)),(11,ii ((j:Nat):Int))],ρ,[],0,[],AllP.mem (by repeat first|exact trivial|refine⟨⟨_,rfl,rfl,trivial⟩,?_⟩),WI.start w3 ρ,?_⟩
  refine Run.W1 (hc w3) ?_
  conv=>whnf
  exact Run.tH (ih w3 ⟨hJ3,hF3⟩) ⟨⟨rfl,trivial⟩,⟨rfl,trivial⟩,⟨rfl,trivial⟩,⟨wsx (by omega),trivial⟩,trivial⟩ trivial (fun p hp=>by cases hp)
 ·rintro w1 ⟨hJ1,hF1⟩
  refine Run.W1 (hc w1) ?_
  conv=>whnf
  rw[decide_eq_false (show ¬(((zH S a).length:Nat):Int)<((zH S a).length:Int)by omega)]
  conv=>whnf
  exact⟨fun ρ w2 hW _=>⟨rfl,hext _ _ _ hJ1 hW.toExt,hF1.trans (YFrame.ext hW.toExt)⟩⟩
def qK (sp ins:List Int):List Int:=sp++ins.map fun k=>W (-1-k)
def ylS (S:List Syn)(ks:List Int):List Syn:=ks.flatMap (zH S)
def ylV (S:List Syn)(ks:List Int):List (List Value):=(ylS S ks).map fun s=>[.agg s.vals.toArray]
theorem ylS_take {S:List Syn}{ks:List Int}{i:Nat}(h:i<ks.length):ylS S (ks.take (i+1))=ylS S (ks.take i)++zH S ks[i]:=by
 unfold ylS
 rw[←List.take_append_getElem h,List.flatMap_append]
 simp
theorem ylV_get {S:List Syn}{ks:List Int}{i:Nat}(h:i<ks.length)(a:Int)(ha:ks[i]=a)(j:Nat)(hj:j<(zH S a).length):(ylV S ks)[(ylS S (ks.take i)).length+j]? = some [.agg (zH S a)[j].vals.toArray]:=by
 subst ha
 have e:ylS S ks=ylS S (ks.take i)++(zH S ks[i]++ylS S (ks.drop (i+1))):=by
  have:ks=ks.take i++ks[i]::ks.drop (i+1):=by rw[←List.drop_eq_getElem_cons h,List.take_append_drop]
  conv=>lhs;rw[this]
  unfold ylS
  rw[List.flatMap_append,List.flatMap_cons]
 unfold ylV
 rw[List.getElem?_map,e,List.getElem?_append_right (by omega),show(ylS S (ks.take i)).length+j-(ylS S (ks.take i)).length=j by omega,List.getElem?_append_left hj,List.getElem?_eq_getElem hj]
 rfl
theorem srcK_lo {sp ins:List Int}{i:Nat}(h:i<sp.length) :∃h':i<(qK sp ins).length,(qK sp ins)[i]=sp[i]:=⟨by simp[qK];omega,by simp[qK,List.getElem_append_left h]⟩
theorem srcK_hi {sp ins:List Int}{i:Nat}(h:i<ins.length) :∃h':sp.length+i<(qK sp ins).length,(qK sp ins)[sp.length+i]=W (-1-ins[i]):=⟨by simp[qK];omega,by simp[qK]⟩
structure FRaw (S:List Syn) (b1 s:Nat) (m:List (Key×Value)) (bs:Nat) (vs:Value) (sp:List Int) (bi:Nat) (vi:Value) (ins:List Int) (w:World):Prop where
 wr:WRaw S b1 s m w
 cs:w.cell? ⟨bs,0,none⟩=some vs
 rs:RowsAt w vs 1 sp.length (qD sp)
 ci:w.cell? ⟨bi,0,none⟩=some vi
 ri:RowsAt w vi 1 ins.length (qD ins)
theorem from_iterN (S:List Syn)(hS:S.length≤8192)(b1 s:Nat)(m:List (Key×Value))(bs:Nat)(vs:Value)(sp:List Int)(bi:Nat)(vi:Value)(ins:List Int)(hsp:sp.length<4611686018427387904)(hin:ins.length<4611686018427387904) :
  IterN Try.prog 106 [.pointer (some ⟨b1,0,none⟩),.pointer (some ⟨bs,0,none⟩),.pointer (some ⟨bi,0,none⟩)] (FRaw S b1 s m bs vs sp bi vi ins) (ylV S (qK sp ins)):=by
 intro l N0 J hext hJ hy w hw
 have hc :∀w0,Cx.ok ⟨Try.prog,tab,[],106,Try.f106,[],w0,[],none⟩:=fun w0=>⟨qI,trivial,Try.func106,mixed,fun _ h=>by cases h⟩
 obtain⟨hr,hN⟩:=hJ 0 w hw
 have hargs:(#[.func (.yield l) #[] #[]]++[.pointer (some ⟨b1,0,none⟩),.pointer (some ⟨bs,0,none⟩),.pointer (some ⟨bi,0,none⟩)].toArray:Array Value)=(SV.concs zP [.v (.func (.yield l) #[] #[]),.v (.pointer (some ⟨b1,0,none⟩)),.v (.pointer (some ⟨bs,0,none⟩)),.v (.pointer (some ⟨bi,0,none⟩))]).toArray:=by simp[SV.concs,SV.conc]
 rw[hargs]
 refine Run.s9 (tab:=tab) (pf:=[]) (cuts:=[]) mixed qI trivial Try.func106 rfl [.v (.func (.yield l) #[] #[]),.v (.pointer (some ⟨b1,0,none⟩)),.v (.pointer (some ⟨bs,0,none⟩)),.v (.pointer (some ⟨bi,0,none⟩))] 1000 (by simp[SV.scs,SV.sc]) rfl ?_
 conv=>whnf
 refine Run.s6 (T':=[(2,.v (.pointer (some ⟨bs,0,none⟩))),(3,.v (.pointer (some ⟨bi,0,none⟩))),(5,.fn 107 [.v (.pointer (some ⟨b1,0,none⟩)),.ptr 0 0])]) (M':=[(0,.cells [.v (.func (.yield l) #[] #[])] 193)]) 1 ⟨⟨rfl,trivial⟩,⟨rfl,trivial⟩,⟨rfl,trivial,ltb rfl,trivial⟩,trivial⟩ ⟨⟨rfl,by omega,trivial,trivial⟩,trivial⟩ (fun p hp=>by cases hp) ?_
 refine Run.raw fun ρ w1 hW1=> ?_
 obtain⟨_,_,ho,hbox⟩:=hW1.mem 0 _ rfl
 have hE1:=hW1.toExt
 have hb2':w.heap.size≤ρ.s 0:=by
  rcases hW1.new 0 _ rfl trivial with⟨p,hp,_⟩|h
  ·cases hp
  ·exact h
 obtain⟨b2,hb2e⟩ :∃b2,ρ.s 0=b2:=⟨_,rfl⟩
 have hfn:(SV.fn 107 [.v (.pointer (some ⟨b1,0,none⟩)),.ptr 0 0]).conc ρ = .func (.func 107) #[] #[.pointer (some ⟨b1,0,none⟩),.pointer (some ⟨b2,0,none⟩)]:=by simp[SV.conc,SV.concs,ho,hb2e]
 rw[hb2e]at hbox hb2'
 have hb2:N0≤b2:=Nat.le_trans hN hb2'
 have hc2:w1.cell? ⟨b2,0,none⟩=some (.func (.yield l) #[] #[]):=by simp[World.cell?,hbox,SV.concs,SV.conc]
 have hw1:=hext _ _ _ hw hE1
 clear hbox ho hW1 hw hr hN hE1 hb2'
 refine Run.s6 (T':=[(2,.v (.pointer (some ⟨bs,0,none⟩))),(3,.v (.pointer (some ⟨bi,0,none⟩))),(5,.v (.func (.func 107) #[] #[.pointer (some ⟨b1,0,none⟩),.pointer (some ⟨b2,0,none⟩)]))]) (M':=[]) 0 ⟨⟨rfl,trivial⟩,⟨rfl,trivial⟩,⟨congrArg (fun x=>some (SV.v x)) hfn,trivial⟩,trivial⟩ trivial (fun p hp=>by cases hp) ?_
 obtain⟨hr,hN⟩:=hJ 0 w1 hw1
 obtain⟨_,ps,cs,rfl,_,_⟩:=hr.rs
 obtain⟨_,pi,ci,rfl,_,_⟩:=hr.ri
 refine Run.loadV (hc w1) rfl rfl rfl rfl rfl rfl rfl (fun p hp=>by cases hp) hr.cs ?_
 refine Run.W1 (hc w1) ?_
 conv=>whnf
 refine Run.s6 (T':=[(3,.v (.pointer (some ⟨bi,0,none⟩))),(5,.v (.func (.func 107) #[] #[.pointer (some ⟨b1,0,none⟩),.pointer (some ⟨b2,0,none⟩)])),(11,.v (.slice ps sp.length cs)),(12,ii (sp.length:Int)),(13,ii ((0:Nat):Int))]) (M':=[]) 0 (by repeat first|exact trivial|refine⟨⟨rfl,trivial⟩,?_⟩) trivial (fun p hp=>by cases hp) ?_
 refine Run.upToW (fun w1:World=>(⟨Try.prog,tab,[],106,Try.f106,[],w1,[],none⟩:Cx)) (T:=fun i _=>[(3,.v (.pointer (some ⟨bi,0,none⟩))),(5,.v (.func (.func 107) #[] #[.pointer (some ⟨b1,0,none⟩),.pointer (some ⟨b2,0,none⟩)])),(11,.v (.slice ps sp.length cs)),(12,ii (sp.length:Int)),(13,ii ((i:Nat):Int))]) (M:=fun _ _=>[]) (fun i w2=>J (ylS S ((qK sp ins).take (i))).length w2∧YFrame N0 w1 w2) sp.length w1 ⟨hw1,YFrame.refl _ _⟩ ?_ ?_
 ·rintro i w2 hi ⟨hJ2,hF2⟩ ih
  obtain⟨hr2,hN2⟩:=hJ _ _ hJ2
  refine Run.W1 (hc w2) ?_
  conv=>whnf
  rw[decide_eq_true (show((i:Nat):Int)<(sp.length:Int)by omega)]
  conv=>whnf
  obtain⟨_,p',c',hpe,_,hh⟩:=hr2.rs
  obtain⟨rfl,_,rfl⟩:ps=p'∧sp.length=sp.length∧cs=c':=by simpa using hpe
  rcases hh with h0|⟨blk,off,rfl,_,hcells⟩
  ·omega
  refine Run.indexV (hc w2) rfl rfl rfl rfl i rfl rfl rfl hi rfl rfl ?_
  refine Run.loadV (hc w2) rfl rfl rfl rfl rfl rfl rfl (fun p hp=>by cases hp) (hcells i (.int .i64 sp[i]) (by simp[qD,hi])) ?_
  refine Run.W1 (hc w2) ?_
  conv=>whnf
  obtain⟨hk1,hk2⟩:=srcK_lo (ins:=ins) hi
  refine Run.callW (g:=107) (vs:=[ii sp[i]]) (caps:=[.v (.pointer (some ⟨b1,0,none⟩)),.v (.pointer (some ⟨b2,0,none⟩))]) (fun _ w3 e w4=>e = .returned (.bool true)∧J ((ylS S ((qK sp ins).take (i))).length+(zH S (sp[i])).length) w4∧YFrame N0 w3 w4) (fun ρ w3 hW3=>each_run S hS b1 s m l N0 J (ylV S (qK sp ins)) hext (fun i w h=>⟨(hJ i w h).1.wr,(hJ i w h).2⟩) hy (sp[i]) _ (fun j hj=>ylV_get hk1 _ hk2 j hj) b2 hb2 w3 (hext _ _ _ hJ2 hW3.toExt) ((hF2.trans (YFrame.ext hW3.toExt)).cell hb2 hc2))
   (ent _ _ Try.func107 (by kernel_rfl) rfl) rfl rfl rfl rfl rfl rfl rfl (fun ρ w3 e w4 hW3 ⟨he,hJ4,hF4⟩=>⟨.v (.bool true),[(3,.v (.pointer (some ⟨bi,0,none⟩))),(5,.v (.func (.func 107) #[] #[.pointer (some ⟨b1,0,none⟩),.pointer (some ⟨b2,0,none⟩)])),(11,.v (.slice (some ⟨blk,off,none⟩) sp.length cs)),(12,ii (sp.length:Int)),(13,ii ((i:Nat):Int))],ρ,[],0,[],he,trivial,AllP.mem (by repeat first|exact trivial|refine⟨⟨_,rfl,rfl,trivial⟩,?_⟩),WI.start w4 ρ,?_⟩)
  refine Run.W1 (hc w4) ?_
  conv=>whnf
  exact Run.tH (ih w4 ⟨by rw[ylS_take hk1,List.length_append,hk2];exact hJ4,hF2.trans ((YFrame.ext hW3.toExt).trans hF4)⟩) ⟨⟨rfl,trivial⟩,⟨rfl,trivial⟩,⟨rfl,trivial⟩,⟨rfl,trivial⟩,⟨wsx (by omega),trivial⟩,trivial⟩ trivial (fun p hp=>by cases hp)
 ·rintro w2 ⟨hJ2,hF2⟩
  obtain⟨hr2,hN2⟩:=hJ _ _ hJ2
  refine Run.W1 (hc w2) ?_
  conv=>whnf
  rw[decide_eq_false (show ¬((sp.length:Nat):Int)<(sp.length:Int)by omega)]
  conv=>whnf
  refine Run.loadV (hc w2) rfl rfl rfl rfl rfl rfl rfl (fun p hp=>by cases hp) hr2.ci ?_
  refine Run.W1 (hc w2) ?_
  conv=>whnf
  refine Run.s6 (T':=[(5,.v (.func (.func 107) #[] #[.pointer (some ⟨b1,0,none⟩),.pointer (some ⟨b2,0,none⟩)])),(22,.v (.slice pi ins.length ci)),(23,ii (ins.length:Int)),(24,ii ((0:Nat):Int))]) (M':=[]) 0 ⟨⟨rfl,trivial⟩,⟨rfl,trivial⟩,⟨rfl,trivial⟩,⟨rfl,trivial⟩,trivial⟩ trivial (fun p hp=>by cases hp) ?_
  refine Run.upToW (fun w1:World=>(⟨Try.prog,tab,[],106,Try.f106,[],w1,[],none⟩:Cx)) (T:=fun i _=>[(5,.v (.func (.func 107) #[] #[.pointer (some ⟨b1,0,none⟩),.pointer (some ⟨b2,0,none⟩)])),(22,.v (.slice pi ins.length ci)),(23,ii (ins.length:Int)),(24,ii ((i:Nat):Int))]) (M:=fun _ _=>[]) (fun i w2=>J (ylS S ((qK sp ins).take (sp.length+i))).length w2∧YFrame N0 w1 w2) ins.length w2 ⟨hJ2,hF2⟩ ?_ ?_
  ·rintro i w3 hi ⟨hJ3,hF3⟩ ih
   obtain⟨hr3,hN3⟩:=hJ _ _ hJ3
   refine Run.W1 (hc w3) ?_
   conv=>whnf
   rw[decide_eq_true (show((i:Nat):Int)<(ins.length:Int)by omega)]
   conv=>whnf
   obtain⟨_,p',c',hpe,_,hh⟩:=hr3.ri
   obtain⟨rfl,_,rfl⟩:pi=p'∧ins.length=ins.length∧ci=c':=by simpa using hpe
   rcases hh with h0|⟨blk,off,rfl,_,hcells⟩
   ·omega
   refine Run.indexV (hc w3) rfl rfl rfl rfl i rfl rfl rfl hi rfl rfl ?_
   refine Run.loadV (hc w3) rfl rfl rfl rfl rfl rfl rfl (fun p hp=>by cases hp) (hcells i (.int .i64 ins[i]) (by simp[qD,hi])) ?_
   refine Run.W1 (hc w3) ?_
   conv=>whnf
   obtain⟨hk1,hk2⟩:=srcK_hi (sp:=sp) hi
   refine Run.callW (g:=107) (vs:=[ii (IntKind.i64.wrap (-1-ins[i]))]) (caps:=[.v (.pointer (some ⟨b1,0,none⟩)),.v (.pointer (some ⟨b2,0,none⟩))]) (fun _ w4 e w5=>e = .returned (.bool true)∧J ((ylS S ((qK sp ins).take (sp.length+i))).length+(zH S (W (-1-ins[i]))).length) w5∧YFrame N0 w4 w5) (fun ρ w4 hW4=>each_run S hS b1 s m l N0 J (ylV S (qK sp ins)) hext (fun i w h=>⟨(hJ i w h).1.wr,(hJ i w h).2⟩) hy (W (-1-ins[i])) _ (fun j hj=>ylV_get hk1 _ hk2 j hj) b2 hb2 w4 (hext _ _ _ hJ3 hW4.toExt) ((hF3.trans (YFrame.ext hW4.toExt)).cell hb2 hc2))
    (ent _ _ Try.func107 (by kernel_rfl) rfl) rfl rfl rfl rfl rfl rfl rfl (fun ρ w4 e w5 hW4 ⟨he,hJ5,hF5⟩=>⟨.v (.bool true),[(5,.v (.func (.func 107) #[] #[.pointer (some ⟨b1,0,none⟩),.pointer (some ⟨b2,0,none⟩)])),(22,.v (.slice (some ⟨blk,off,none⟩) ins.length ci)),(23,ii (ins.length:Int)),(24,ii ((i:Nat):Int))],ρ,[],0,[],he,trivial,AllP.mem (by repeat first|exact trivial|refine⟨⟨_,rfl,rfl,trivial⟩,?_⟩),WI.start w5 ρ,?_⟩)
   refine Run.W1 (hc w5) ?_
   conv=>whnf
   exact Run.tH (ih w5 ⟨by rw[←Nat.add_assoc,ylS_take hk1,List.length_append,hk2];exact hJ5,hF3.trans ((YFrame.ext hW4.toExt).trans hF5)⟩) ⟨⟨rfl,trivial⟩,⟨rfl,trivial⟩,⟨rfl,trivial⟩,⟨wsx (by omega),trivial⟩,trivial⟩ trivial (fun p hp=>by cases hp)
  ·rintro w3 ⟨hJ3,hF3⟩
   refine Run.W1 (hc w3) ?_
   conv=>whnf
   rw[decide_eq_false (show ¬((ins.length:Nat):Int)<(ins.length:Int)by omega)]
   conv=>whnf
   have hall:(qK sp ins).take (sp.length+ins.length)=qK sp ins:=List.take_of_length_le (by simp[qK])
   rw[hall]at hJ3
   exact⟨fun ρ w4 hW _=>⟨⟨_,rfl⟩,by rw[show(ylV S (qK sp ins)).length=(ylS S (qK sp ins)).length by simp[ylV]];exact hext _ _ _ hJ3 hW.toExt⟩⟩
def yE (inp tk:Int):List SV:=[.opq 1,ii inp,.opq 20,.mp 2,ii tk,.opq 3,.opq 4,.opq 5,.opq 6,.opq 7,.opq 8,.opq 9,.opq 10,.opq 11,.opq 12,.opq 13,.opq 14,.opq 15,.opq 16,.opq 17,.opq 18,.opq 19]
theorem jN (inp tk:Int):SV.scs (· < 21) (yE inp tk):=by simp[yE,SV.scs,SV.sc]
theorem nrow_spec (inp tk d:Int)(h0:0≤tk)(h1:tk<1000000000)(d0:0≤d)(d1:d≤1000):BSpec Try.prog 93 [.ptr 0 0,ii d] [(0,.cells (yE inp tk) 170)] 21 [0] (.opq (4+zE (tk+d))) [(0,.cells (yE inp tk) 170)] 21:=by
 have hc :∀w L' rd,(∀p,rd=some p→p∈L')→Cx.ok ⟨Try.prog,tab,[],93,Try.f93,[],w,L',rd⟩:=fun w L' rd h=>⟨qI,trivial,Try.func93,mixed,h⟩
 refine BSpec.start (tab:=tab) (pf:=[]) (cuts:=[]) Try.func93 rfl ⟨(show 0<21 by decide),trivial,trivial⟩ rfl fun w L0 plp hL hLB hcov=>Run.s0 (hc w L0 none nofun) 100 _ ?_
 conv=>whnf
 refine Run.draw (hc w L0 none nofun) 13 ?_
 rw[show qG 0 13=qG 0 8++qG 8 5 from rfl]
 simp only[qV]
 conv=>whnf
 refine⟨by decide,?_⟩
 have hw:IntKind.i64.wrap (tk+d)=tk+d:=zL (by omega) (by omega)
 rw[hw,gZ (show 0≤tk+d by omega)]
 have hk16:=yI (t:=tk+d)
 generalize zE (tk+d)=k at hk16 ⊢
 conv=>whnf
 refine⟨by omega,?_⟩
 conv=>whnf
 rw[tY (c:=.opq (4+k)) rfl rfl rfl rfl (by rw[qQ];rcases lt16 hk16 with rfl|rfl|rfl|rfl|rfl|rfl|rfl|rfl|rfl|rfl|rfl|rfl|rfl|rfl|rfl|rfl<;>rfl)]
 conv=>whnf
 refine⟨by kernel_rfl,?_⟩
 refine Run.W2 hc ?_
 conv=>whnf
 exact SpecR.intro 22 (by decide) hLB (by decide) hcov rfl (by show SV.opq (sh 21 22 (4+k))=_;rw[yY (by omega)]) (show 4+k<21 by omega) ⟨⟨by rw[oren_fix (S:=(· < 21)) (fun i hi=>x5 i hi) (o:=.cells (yE inp tk) 170) (jN _ _)];rfl,by omega,jN _ _⟩,trivial⟩
theorem nfrom_spec:BSpec Try.prog 94 [.mp 0,.opq 1,.opq 2] [] 3 [] (.fn 106 [.ptr 3 0,.ptr 4 0,.ptr 5 0]) [(3,.cells [.mp 0] 165),(4,.cells [.opq 1] 27),(5,.cells [.opq 2] 27)] 6:=by
 have hc :∀w L' rd,(∀p,rd=some p→p∈L')→Cx.ok ⟨Try.prog,tab,[],94,Try.f94,[],w,L',rd⟩:=fun w L' rd h=>⟨qI,trivial,Try.func94,mixed,h⟩
 refine BSpec.start (tab:=tab) (pf:=[]) (cuts:=[]) Try.func94 rfl ⟨(show 0<3 by decide),(show 1<3 by decide),ltb rfl,trivial⟩ rfl fun w L0 plp hL hLB hcov=>Run.s0 (hc w L0 none nofun) 100 _ ?_
 conv=>whnf
 exact SpecR.intro 4 (by decide) hLB (by decide) hcov rfl rfl ⟨(show 3<6 by decide),(show 4<6 by decide),ltb rfl,trivial⟩ ⟨⟨rfl,by omega,qE _ rfl⟩,⟨rfl,by omega,qE _ rfl⟩,⟨rfl,by omega,qE _ rfl⟩,trivial⟩
def dSt (tk:Int)(due:Nat→List Int)(x:Syn):Nat→List Int:=fun j=>if j=zE (tk+x.d)then(due j).set x.to.toNat (W ((due j).getD x.to.toNat 0+x.w))else due j
def dY (tk:Int)(due:Nat→List Int)(l:List Syn)(j:Nat):Nat→List Int:=(l.take j).foldl (dSt tk) due
theorem dY_succ (tk:Int)(due:Nat→List Int){l:List Syn}{j:Nat}(h:j<l.length):dY tk due l (j+1)=dSt tk (dY tk due l j) l[j]:=by
 unfold dY
 rw[←List.take_append_getElem h,List.foldl_append];rfl
theorem dSt_len (tk:Int)(due:Nat→List Int)(x:Syn)(j:Nat):(dSt tk due x j).length=(due j).length:=by
 unfold dSt;split<;>simp
theorem tI (tk:Int) :∀(l:List Syn) (due:Nat→List Int) (j:Nat),(l.foldl (dSt tk) due j).length=(due j).length
 | [],_,_=>rfl
 |x::l,due,j=>by rw[List.foldl_cons,tI tk l,dSt_len]
theorem dY_len (tk:Int)(due:Nat→List Int)(l:List Syn)(i j:Nat):(dY tk due l i j).length=(due j).length:=tI tk _ due j
def dClr (k N:Nat)(due:Nat→List Int):Nat→List Int:=fun j=>if j=k then List.replicate N 0 else due j
theorem dClr_len {k N:Nat}{due:Nat→List Int}(h :∀j,j<16→(due j).length=N)(j:Nat)(hj:j<16):(dClr k N due j).length=N:=by
 unfold dClr;split
 ·simp
 ·exact h j hj
end Go.Proofs.Ytnnlpdgnlccbjaa
namespace Go.Sx
open Go
theorem Run.rK {c:Cx}{T T':List (Nat×SV)}{M M':List (Nat×SObj)}{n n':Nat}{D:List Deferred}{todo:List Item}{R:Ending→World→Prop}(h:Run c ⟨T',M',n',D,todo⟩ R)(r:Nat→Nat)(hinj :∀i,i<n' → ∀j,j<n'→i≠j→r i≠r j)(hT:AllP (fun x=>look T x.1=some (x.2.ren r)∧x.2.sc (· < n')) T')
  (hM:AllP (fun x=>look M (r x.1)=some (x.2.ren r)∧x.1<n'∧x.2.sc (· < n')) M') (hL :∀p∈c.L,r p.1=p.1∧p.1<n'):Run c ⟨T,M,n,D,todo⟩ R:=Run.rC r n' hinj hT hM hL h
theorem gF {α β : Type}{f g : α → β} :∀{l:List α},l.map f=l.map g→AllP (fun x=>f x=g x) l
 | [],_=>trivial
 |a::l,h=>by
  simp only[List.map_cons,List.cons.injEq]at h
  exact⟨h.1,gF h.2⟩
theorem gE {α : Type}{p q : α → Prop} :∀{l:List α},AllP p l→AllP q l→AllP (fun x=>p x∧q x) l
 | [],_,_=>trivial
 |_::_,h,k=>⟨⟨h.1,k.1⟩,gE h.2 k.2⟩
theorem allP_imp {α : Type}{p q : α → Prop}(hpq :∀x,p x→q x) :∀{l:List α},AllP p l→AllP q l
 | [],_=>trivial
 |_::_,h=>⟨hpq _ h.1,allP_imp hpq h.2⟩
theorem allP_app {α : Type}{p : α → Prop} :∀{l l':List α},AllP p l→AllP p l'→AllP p (l++l')
 | [],_,_,h=>h
 |_::_,_,h,k=>⟨h.1,allP_app h.2 k⟩
theorem wZ {α : Type}{p : α → Prop} :∀{l:List α},(∀x∈l,p x)→AllP p l
 | [],_=>trivial
 |a::_,h=>⟨h a (by simp),wZ fun x hx=>h x (by simp[hx])⟩
def In (n:Nat)(M:List (Nat×SObj)):Prop:=AllP (fun x=>x.1<n∧x.2.sc (· < n)) M
section
variable {c:Cx} {T T':List (Nat×SV)} {M M':List (Nat×SObj)} {n n':Nat} {D:List Deferred} {todo:List Item} {R:Ending→World→Prop}
theorem Run.callK {ops:Array Oper}{i:Nat}{r:List Nat}{k:List Item}{o:Oper}{f:Operand}{args:Array Operand}{ts:Array TypeId}
  {fv:SV} {g:FuncId} {caps2 vs:List SV} {Mc:List (Nat×SObj)} {B:Nat} {is:List Nat} {v:SV} {M1:List (Nat×SObj)} {n1:Nat} (hspec:BSpec c.P g vs Mc B is v M1 n1) (hg:zU c.P g)
  (ho:get ops.toList i=some o) (hop:o.op = .call { callee:=.value f,args:=args,argTypes:=ts }) (hw:zQ ops.toList (look T) o=some true) (hd:okD c.fn.ntmps o.dst=true)
  (hf:ev (look T) f=some fv) (hfv:zW fv=some (g,caps2)) (hc2:caps2=[]) (vs2:List SV) (hvs:evs (look T) args.toList=some vs2) (rn:Nat→Nat) (hvr:SV.rens rn vs=vs2) (hr :∀i,i<B→rn i<n) (keys:List Nat) (hkeys:Mc.map (·.1)=keys) (hinj :∀i∈keys,∀j∈keys,i≠j→rn i≠rn j) (hB1:Nat.ble B n1=true)
  (hA:In B Mc) (hW:(Mc.all fun x=>x.2.wnd != is.contains x.1)=true) (hC:AllP (fun x=> ∃o,look M (rn x.1)=some o∧Conv o (x.2.ren rn)) Mc) (his :∀i∈is,i∈keys)
  (v2:SV) (News Keep:List (Nat×SObj)) (n2:Nat) (hv2:v2=v.ren (shR rn B n)) (hn2:n2=n+(n1-B)) (hN:AllP (fun x=> ∃i o,shR rn B n i=x.1∧look M1 i=some o∧x.2=o.ren (shR rn B n)∧o.wnd=false) News)
  (hK1:Keep.map (fun x=>look M x.1)=Keep.map fun x=>some x.2) (hK2:(Keep.all fun x=> !((is.map rn).contains x.1))=true)
  (h:Run c ⟨z5 T o.dst v2,News++Keep,n2,D,.inRegion ops r::k⟩ R):Run c ⟨T,M,n,D,.inRegion ops (i::r)::k⟩ R:=by
 subst hc2
 have hAm:=AllP.mem hA
 refine Run.callA (caps:=[]) (caps2:=[]) (vs:=vs) (by rw[List.append_nil];exact hspec) hg ho hop hw hd hf hfv vs2 hvs rn (by rw[List.append_nil,List.append_nil];exact hvr) hr keys hkeys hinj (Nat.le_of_ble_eq_true hB1)
  (wZ fun x hx=> ?_) (fun i hi=> ?_) v2 (News++Keep) n2 hv2 hn2 (allP_app (allP_imp (fun x hx=>.inr hx) hN) (wZ fun x hx=>.inl ⟨(gF hK1).mem x hx,fun i hi he=> ?_⟩)) h
 ·obtain⟨h1,h2⟩:=hAm x hx
  have h3:=List.all_eq_true.1 hW x hx
  refine⟨h1,h2,hC.mem x hx,?_,fun hw hm=> ?_⟩
  ·cases hw:x.2.wnd
   ·right
    rw[hw]at h3
    simpa using h3
   ·exact .inl rfl
  ·rw[hw]at h3
   simp at h3
   exact h3 hm
 ·have hm:=his i hi
  rw[←hkeys]at hm
  obtain⟨x,hx,rfl⟩:=List.mem_map.1 hm
  refine⟨(hAm x hx).1,?_⟩
  exact vJ hx
 ·have h3:=List.all_eq_true.1 hK2 x hx
  simp at h3
  exact h3 i hi he
end
end Go.Sx
namespace Go.Proofs.Ytnnlpdgnlccbjaa
open Go.Sx
set_option maxRecDepth 100000
set_option maxHeartbeats 16000000
section
variable {tab:Tab} {pf:PF} {T:Tm} {M:Mem} {n:Nat} {t:TypeId} {x y:Operand} {ti:TI} {j e m:Nat} {xs:List SV} {rt:TypeId}
theorem opF_lenR {args:Array Operand}{ts:Array TypeId}{te:TypeId}{sz b:Nat}(ha:args.toList=[x])(hts:ts.toList.head? = some t)(ht:Sx.look tab t=some ti)(hs:ti.sh = .slc te sz b)(hx:ev T x=some (.opq j))(hM:M j=some (.row e m xs rt)) :
  opF tab pf T M n (.call { callee:=.builtin .len,args:=args,argTypes:=ts })=some (.val none (ii (m:Int))):=by
 have hts2 :∃r,ts.toList=t::r:=by
  cases hq:ts.toList with
  |nil=>rw[hq]at hts;cases hts
  |cons a r=>rw[hq]at hts;exact⟨r,by rw[Option.some.inj hts]⟩
 obtain⟨r,hts2⟩:=hts2
 unfold opF
 simp only[ha,hts2]
 unfold opLen
 simp only[ht,hs,hx,hM]
theorem gM {te:TypeId}{sz b:Nat}{i:Int}{k:IntKind}(ht:Sx.look tab t=some ti)(hs:ti.sh = .slc te sz b)(hx:ev T x=some (.opq j))(hy:ev T y=some (.v (.int k i)))(hM:M j=some (.row e m xs rt))(he:e=sz) :
  opF tab pf T M n (.indexAddr t x y)=some (.val (some (0≤i∧i<(m:Int))) (.ptr j (idx i sz))):=by
 subst he
 unfold opF
 simp only
 unfold kY
 have hb:Nat.beq e e=true:=Nat.beq_refl e
 simp only[ht,hs,hx,hy,hM,hb]
end
theorem joinN {G:Prop}{c:Cx}{R:Ending→World→Prop}{q:List Item}(T:List (Nat×SV))(M:List (Nat×SObj))(n:Nat)(h1:Run c ⟨T,M,n,[],q⟩ R→G)(h2:Run c ⟨T,M,n,[],q⟩ R):G:=h1 h2
abbrev swS (S:List Syn):SObj:=.swin 4 (fun k=>(zH S k).length) fun k=>(zH S k).flatMap Syn.vals
def nsimM (inp tk:Int)(N:List Prm)(S:List Syn)(st:List Ste)(due:Nat→List Int):List (Nat×SObj):=[(0,.cells (yE inp tk) 170),(1,.rwin 8 N.length (N.flatMap Prm.vals)),(2,swS S),(3,.row 2 N.length (st.flatMap Ste.cells) 139),(4,.row 1 N.length ((due 0).map fun x=>ii x) 3),(5,.row 1 N.length ((due 1).map fun x=>ii x) 3),(6,.row 1 N.length ((due 2).map fun x=>ii x) 3),(7,.row 1 N.length ((due 3).map fun x=>ii x) 3),(8,.row 1 N.length ((due 4).map fun x=>ii x) 3),(9,.row 1 N.length ((due 5).map fun x=>ii x) 3),(10,.row 1 N.length ((due 6).map fun x=>ii x) 3),(11,.row 1 N.length ((due 7).map fun x=>ii x) 3),(12,.row 1 N.length ((due 8).map fun x=>ii x) 3),(13,.row 1 N.length ((due 9).map fun x=>ii x) 3),(14,.row 1 N.length ((due 10).map fun x=>ii x) 3),(15,.row 1 N.length ((due 11).map fun x=>ii x) 3),(16,.row 1 N.length ((due 12).map fun x=>ii x) 3),(17,.row 1 N.length ((due 13).map fun x=>ii x) 3),(18,.row 1 N.length ((due 14).map fun x=>ii x) 3),(19,.row 1 N.length ((due 15).map fun x=>ii x) 3)]
structure SimOK (tk:Int) (N:List Prm) (S:List Syn) (st:List Ste) (due:Nat→List Int) (nin:Nat):Prop where
 t0:0≤tk
 t1:tk<100000000
 lst:st.length=N.length
 ld :∀j,j<16→(due j).length=N.length
 lN:N.length≤1024
 lS:S.length≤8192
 lin:nin<4611686018427387904
 to0 :∀s∈S,0≤s.to
 to1 :∀s∈S,s.to<(N.length:Int)
 d0 :∀s∈S,1≤s.d
 d1 :∀s∈S,s.d≤16
 ok :∀i (h:i<N.length) (h':i<st.length),vld N[i] st[i]=0
def nB (tk:Int)(N:List Prm)(st:List Ste)(due:Nat→List Int):List Ste×List Int×List Int:=nL N (due (zE tk)) st
def nDue (tk:Int)(N:List Prm)(S:List Syn)(st:List Ste)(due:Nat→List Int)(ins:List Int):Nat→List Int:=(ylS S (qK (nB tk N st due).2.1 ins)).foldl (dSt tk) (dClr (zE tk) N.length due)
theorem nstep_spec (inp tk:Int)(N:List Prm)(S:List Syn)(st:List Ste)(due:Nat→List Int)(ins:List Int)(hok:SimOK tk N S st due ins.length) :
  BSpec Try.prog 60 [.ptr 0 0,.opq 21] (nsimM inp tk N S st due++[(21,.rwin 1 ins.length (qD ins))]) 22 [0,3,4,5,6,7,8,9,10,11,12,13,14,15,16,17,18,19] (.opq 22) ((22,.row 1 (nB tk N st due).2.1.length ((nB tk N st due).2.1.map fun x=>ii x) 3)::nsimM inp (W (tk+1)) N S (nB tk N st due).1 (nDue tk N S st due ins)) 23:=by
 have hvok:=hok.ok
 obtain⟨vd,hvd⟩ :∃f,vld=f:=⟨_,rfl⟩
 obtain⟨sS,hsS⟩ :∃f,jR=f:=⟨_,rfl⟩
 obtain⟨sB,hsB⟩ :∃f,yO=f:=⟨_,rfl⟩
 have hpf:PF.oks Try.prog [(80,vV vld jR yO)]:=⟨sD,trivial⟩
 rw[hvd,hsS,hsB]at hpf
 have hc :∀w L' rd,(∀p,rd=some p→p∈L')→Cx.ok ⟨Try.prog,tab,[(80,vV vd sS sB)],60,Try.f60,[],w,L',rd⟩:=fun w L' rd h=>⟨qI,hpf,Try.func60,mixed,h⟩
 refine BSpec.start (tab:=tab) (pf:=[(80,vV vd sS sB)]) (cuts:=[]) Try.func60 rfl ⟨(show 0<22 by decide),ltb rfl,trivial⟩ rfl fun w L0 plp hL hLB hcov=>Run.s0 (hc w L0 none nofun) 100 _ ?_
 generalize hRR:SpecR _ _ _ _ _ _=RR
 conv=>whnf
 refine Run.rF (vs:=[.ptr 0 0,ii 0]) (caps:=[]) (nrow_spec inp tk 0 hok.t0 (by have:=hok.t1;omega) (by decide) (by decide)) (ent _ _ Try.func93 (by kernel_rfl) rfl) rfl rfl rfl rfl rfl rfl rfl (by decide) (by decide)
  ⟨⟨by omega,jN _ _,⟨_,rfl,Conv.refl _⟩,.inr (by simp),fun h=>by cases h⟩,trivial⟩ (fun i hi=>by simp at hi;subst hi;exact⟨by omega,_,rfl⟩) (.opq (4+zE (tk+0))) [(22,.pin plp),(23,.cells [.ptr 0 0] 124),(0,.cells (yE inp tk) 170),(1,.rwin 8 N.length (N.flatMap Prm.vals)),(2,swS S),(3,.row 2 N.length (st.flatMap Ste.cells) 139),(4,.row 1 N.length ((due 0).map fun x=>ii x) 3),(5,.row 1 N.length ((due 1).map fun x=>ii x) 3),(6,.row 1 N.length ((due 2).map fun x=>ii x) 3),(7,.row 1 N.length ((due 3).map fun x=>ii x) 3),(8,.row 1 N.length ((due 4).map fun x=>ii x) 3),(9,.row 1 N.length ((due 5).map fun x=>ii x) 3),(10,.row 1 N.length ((due 6).map fun x=>ii x) 3),(11,.row 1 N.length ((due 7).map fun x=>ii x) 3),(12,.row 1 N.length ((due 8).map fun x=>ii x) 3),(13,.row 1 N.length ((due 9).map fun x=>ii x) 3),(14,.row 1 N.length ((due 10).map fun x=>ii x) 3),(15,.row 1 N.length ((due 11).map fun x=>ii x) 3),(16,.row 1 N.length ((due 12).map fun x=>ii x) 3),(17,.row 1 N.length ((due 13).map fun x=>ii x) 3),(18,.row 1 N.length ((due 14).map fun x=>ii x) 3),(19,.row 1 N.length ((due 15).map fun x=>ii x) 3),(21,.rwin 1 ins.length (qD ins))] 24 (by show _=SV.opq (sh 21 24 (4+zE (tk+0)));rw[yY (by have:=yI (t:=tk+0);omega)]) rfl (by repeat first|exact trivial|refine⟨.inr ⟨0,_,rfl,rfl,by rw[oren_fix (S:=(· < 21)) (fun i hi=>x5 i hi) (o:=.cells (yE inp tk) 170) (jN _ _)],rfl⟩,?_⟩|refine⟨.inl ⟨rfl,by simp⟩,?_⟩) ?_
 rw[Int.add_zero]
 have hk16:=yI (t:=tk)
 obtain⟨k,hk⟩ :∃k,zE tk=k:=⟨_,rfl⟩
 have hnB:nB tk N st due=nL N (due k) st:=by unfold nB;rw[hk]
 rw[hk]at hk16 ⊢
 obtain⟨A,hA⟩ :∃A,due k=A:=⟨_,rfl⟩
 have hlA:A.length=N.length:=by rw[←hA];exact hok.ld k hk16
 have hlst:=hok.lst
 have hlN:=hok.lN
 obtain⟨B,hB⟩ :∃B,nL N A st=B:=⟨_,rfl⟩
 have hout:B.2.1.length≤1024:=by rw[←hB];exact Nat.le_trans (wB N A st N.length) hlN
 refine Run.W2 hc ?_
 conv=>whnf
 rw[opF_lenR (t:=27) (xs:=A.map fun x=>ii x) rfl rfl rfl rfl rfl (by rw[←hA];rcases lt16 hk16 with rfl|rfl|rfl|rfl|rfl|rfl|rfl|rfl|rfl|rfl|rfl|rfl|rfl|rfl|rfl|rfl<;>rfl)]
 conv=>whnf
 refine Run.nils (T':=[(2,.ptr 23 0),(1,.opq 21),(5,.opq 24),(6,.opq (4+k)),(15,.opq (4+k)),(16,ii (N.length:Int)),(17,ii ((0:Nat):Int))]) (M':=[(24,.row 1 (nY N A st 0).2.1.length ((nY N A st 0).2.1.map fun x=>ii x) 3),(22,.pin plp),(23,.cells [.ptr 0 0] 124),(0,.cells (yE inp tk) 170),(1,.rwin 8 N.length (N.flatMap Prm.vals)),(2,swS S),(3,.row 2 N.length ((nY N A st 0).1.flatMap Ste.cells) 139),(4,.row 1 N.length ((due 0).map fun x=>ii x) 3),(5,.row 1 N.length ((due 1).map fun x=>ii x) 3),(6,.row 1 N.length ((due 2).map fun x=>ii x) 3),(7,.row 1 N.length ((due 3).map fun x=>ii x) 3),(8,.row 1 N.length ((due 4).map fun x=>ii x) 3),(9,.row 1 N.length ((due 5).map fun x=>ii x) 3),(10,.row 1 N.length ((due 6).map fun x=>ii x) 3),(11,.row 1 N.length ((due 7).map fun x=>ii x) 3),(12,.row 1 N.length ((due 8).map fun x=>ii x) 3),(13,.row 1 N.length ((due 9).map fun x=>ii x) 3),(14,.row 1 N.length ((due 10).map fun x=>ii x) 3),(15,.row 1 N.length ((due 11).map fun x=>ii x) 3),(16,.row 1 N.length ((due 12).map fun x=>ii x) 3),(17,.row 1 N.length ((due 13).map fun x=>ii x) 3),(18,.row 1 N.length ((due 14).map fun x=>ii x) 3),(19,.row 1 N.length ((due 15).map fun x=>ii x) 3),(21,.rwin 1 ins.length (qD ins))]) 1 (fun _=>.row 1 0 [] 3) (fun _ _=>.inl ⟨_,_,rfl⟩) (by repeat first|exact trivial|refine⟨⟨_,rfl,.inl rfl⟩,?_⟩|refine⟨⟨_,rfl,.inr (.inl ⟨rfl,0,by decide,rfl⟩)⟩,?_⟩) (by repeat first|exact trivial|refine⟨.inl ⟨0,by decide,rfl⟩,?_⟩|refine⟨.inr ⟨_,rfl,.inl rfl⟩,?_⟩) ?_
 refine Run.rD (T:=fun i=>[(2,.ptr 23 0),(1,.opq 21),(5,.opq 24),(6,.opq (4+k)),(15,.opq (4+k)),(16,ii (N.length:Int)),(17,ii ((i:Nat):Int))]) (M:=fun i=>[(24,.row 1 (nY N A st i).2.1.length ((nY N A st i).2.1.map fun x=>ii x) 3),(22,.pin plp),(23,.cells [.ptr 0 0] 124),(0,.cells (yE inp tk) 170),(1,.rwin 8 N.length (N.flatMap Prm.vals)),(2,swS S),(3,.row 2 N.length ((nY N A st i).1.flatMap Ste.cells) 139),(4,.row 1 N.length ((due 0).map fun x=>ii x) 3),(5,.row 1 N.length ((due 1).map fun x=>ii x) 3),(6,.row 1 N.length ((due 2).map fun x=>ii x) 3),(7,.row 1 N.length ((due 3).map fun x=>ii x) 3),(8,.row 1 N.length ((due 4).map fun x=>ii x) 3),(9,.row 1 N.length ((due 5).map fun x=>ii x) 3),(10,.row 1 N.length ((due 6).map fun x=>ii x) 3),(11,.row 1 N.length ((due 7).map fun x=>ii x) 3),(12,.row 1 N.length ((due 8).map fun x=>ii x) 3),(13,.row 1 N.length ((due 9).map fun x=>ii x) 3),(14,.row 1 N.length ((due 10).map fun x=>ii x) 3),(15,.row 1 N.length ((due 11).map fun x=>ii x) 3),(16,.row 1 N.length ((due 12).map fun x=>ii x) 3),(17,.row 1 N.length ((due 13).map fun x=>ii x) 3),(18,.row 1 N.length ((due 14).map fun x=>ii x) 3),(19,.row 1 N.length ((due 15).map fun x=>ii x) 3),(21,.rwin 1 ins.length (qD ins))]) (fun _=>True) N.length trivial ?_ ?_
 ·intro i hi _ ih
  refine Run.W2 hc ?_
  conv=>whnf
  rw[decide_eq_true (show((i:Nat):Int)<(N.length:Int)by omega)]
  conv=>whnf
  have en:=vQ N A st i
  have hny:=uO N A st i
  have hsi:i<(nY N A st i).1.length:=by omega
  have hai:i<A.length:=by omega
  have hgn:N.getD i prm0=N[i]:=by simp[List.getD_eq_getElem?_getD,hi]
  have hgs:(nY N A st i).1.getD i jC=(nY N A st i).1[i]:=by simp[List.getD_eq_getElem?_getD,hsi]
  have hga:A.getD i 0=A[i]:=by simp[List.getD_eq_getElem?_getD,hai]
  unfold nStep at en
  simp only[hgn,hgs,hga]at en
  have hsti:i<st.length:=by omega
  have hge:(nY N A st i).1[i]=st[i]:=by
   have:=nY_ge N A st i i (Nat.le_refl i)
   rw[List.getElem?_eq_getElem hsi,List.getElem?_eq_getElem hsti]at this
   exact Option.some.inj this
  have hvi:vd N[i] (nY N A st i).1[i]=0:=by rw[hge,←hvd];exact hvok i hi hsti
  rw[hsS,hsB]at en
  rw[gM (t:=27) (xs:=A.map fun x=>ii x) rfl rfl rfl rfl (by rw[←hA];rcases lt16 hk16 with rfl|rfl|rfl|rfl|rfl|rfl|rfl|rfl|rfl|rfl|rfl|rfl|rfl|rfl|rfl|rfl<;>rfl) rfl]
  conv=>whnf
  refine⟨by omega,?_⟩
  conv=>whnf
  rw[xW (l:=A.map fun x=>ii x) (c:=ii A[i]) i rfl rfl (by rw[←hA];rcases lt16 hk16 with rfl|rfl|rfl|rfl|rfl|rfl|rfl|rfl|rfl|rfl|rfl|rfl|rfl|rfl|rfl|rfl<;>rfl) rfl (by rw[qQ,Nat.mul_one]) (by rw[List.getElem?_map,List.getElem?_eq_getElem hai];rfl)]
  conv=>whnf
  refine Run.draw (hc w L0 none nofun) 25 ?_
  rw[show qG 0 25=qG 0 7++(qG 7 1++(qG 8 6++(qG 14 1++(qG 15 2++qG 17 8))))from rfl]
  simp only[qV]
  conv=>whnf
  refine⟨by omega,?_⟩
  conv=>whnf
  rw[jI (f:=Prm.vals) (l:=N) i rfl rfl rfl rfl rfl Prm.vlen (by rw[qQ]) hi]
  conv=>whnf
  refine⟨by omega,?_⟩
  conv=>whnf
  rw[wK (f:=Ste.cells) (l:=(nY N A st i).1) i rfl rfl rfl rfl rfl (fun _=>rfl) (by rw[qQ]) hsi]
  conv=>whnf
  rw[uP (v:=.tup [.agg [ii (sS N[i] (nY N A st i).1[i] A[i]).v,ii (sS N[i] (nY N A st i).1[i] A[i]).rest],.v (.bool (sB N[i] (nY N A st i).1[i] A[i])),ii 0]) (bs:=[]) rfl rfl rfl rfl (FTick_eq vd sS sB _ N[i] (nY N A st i).1[i] A[i] hvi)]
  conv=>whnf
  refine⟨by kernel_rfl,?_⟩
  refine Run.W2 hc ?_
  conv=>whnf
  refine Run.draw (hc w L0 none nofun) 8 ?_
  rw[show qG 0 8=qG 0 7++qG 7 1 from rfl]
  simp only[qV]
  conv=>whnf
  refine⟨by omega,?_⟩
  conv=>whnf
  rw[opF_storeR (e:=2) (f:=Ste.cells) (l:=(nY N A st i).1) i (sS N[i] (nY N A st i).1[i] A[i]) rfl rfl rfl rfl rfl (fun _=>rfl) (by rw[qQ]) hsi (by decide) rfl rfl]
  conv=>whnf
  refine⟨by kernel_rfl,?_⟩
  refine Run.W2 hc ?_
  conv=>whnf
  have hno:=wB N A st i
  cases hsp:sB N[i] (nY N A st i).1[i] A[i]
  case false=>
   rw[hsp,if_neg (by decide)]at en
   conv=>whnf
   exact Run.s6 (T':=[(2,.ptr 23 0),(1,.opq 21),(5,.opq 24),(6,.opq (4+k)),(15,.opq (4+k)),(16,ii (N.length:Int)),(17,ii ((i+1:Nat):Int))]) (M':=[(24,.row 1 (nY N A st (i+1)).2.1.length ((nY N A st (i+1)).2.1.map fun x=>ii x) 3),(22,.pin plp),(23,.cells [.ptr 0 0] 124),(0,.cells (yE inp tk) 170),(1,.rwin 8 N.length (N.flatMap Prm.vals)),(2,swS S),(3,.row 2 N.length ((nY N A st (i+1)).1.flatMap Ste.cells) 139),(4,.row 1 N.length ((due 0).map fun x=>ii x) 3),(5,.row 1 N.length ((due 1).map fun x=>ii x) 3),(6,.row 1 N.length ((due 2).map fun x=>ii x) 3),(7,.row 1 N.length ((due 3).map fun x=>ii x) 3),(8,.row 1 N.length ((due 4).map fun x=>ii x) 3),(9,.row 1 N.length ((due 5).map fun x=>ii x) 3),(10,.row 1 N.length ((due 6).map fun x=>ii x) 3),(11,.row 1 N.length ((due 7).map fun x=>ii x) 3),(12,.row 1 N.length ((due 8).map fun x=>ii x) 3),(13,.row 1 N.length ((due 9).map fun x=>ii x) 3),(14,.row 1 N.length ((due 10).map fun x=>ii x) 3),(15,.row 1 N.length ((due 11).map fun x=>ii x) 3),(16,.row 1 N.length ((due 12).map fun x=>ii x) 3),(17,.row 1 N.length ((due 13).map fun x=>ii x) 3),(18,.row 1 N.length ((due 14).map fun x=>ii x) 3),(19,.row 1 N.length ((due 15).map fun x=>ii x) 3),(21,.rwin 1 ins.length (qD ins))]) 25 ⟨⟨rfl,ltb rfl⟩,⟨rfl,ltb rfl⟩,⟨rfl,ltb rfl⟩,⟨rfl,(show 4+k<25 by omega)⟩,⟨rfl,(show 4+k<25 by omega)⟩,⟨rfl,trivial⟩,⟨wsx (by omega),trivial⟩,trivial⟩ (by repeat first|exact trivial|refine⟨⟨rfl,by omega,pnx hcov rfl⟩,?_⟩|refine⟨⟨rfl,by omega,⟨ltb rfl,trivial⟩⟩,?_⟩|refine⟨⟨rfl,by omega,SV.s7 (by decide) (jN _ _)⟩,?_⟩|refine⟨⟨rfl,by omega,Os.h _⟩,?_⟩|refine⟨⟨by rw[en];rfl,by omega,Os.h _⟩,?_⟩) (lbx hLB rfl) (ih trivial)
  rw[hsp,if_pos rfl]at en
  conv=>whnf
  refine Run.append (hc w L0 none nofun) rfl rfl rfl rfl rfl rfl rfl rfl rfl rfl rfl rfl rfl rfl rfl (by omega) ⟨by omega,by omega⟩ [(22,_),(23,_),(0,_),(1,_),(2,_),(3,_),(4,_),(5,_),(6,_),(7,_),(8,_),(9,_),(10,_),(11,_),(12,_),(13,_),(14,_),(15,_),(16,_),(17,_),(18,_),(19,_),(21,_)]
   (AllP.mem (by repeat first|exact trivial|refine⟨⟨rfl,by omega⟩,?_⟩)) ?_
  refine Run.W2 hc ?_
  conv=>whnf
  exact Run.trimR (T':=[(2,.ptr 23 0),(1,.opq 21),(5,.opq 24),(6,.opq (4+k)),(15,.opq (4+k)),(16,ii (N.length:Int)),(17,ii ((i+1:Nat):Int))]) (M':=[(24,.row 1 (nY N A st (i+1)).2.1.length ((nY N A st (i+1)).2.1.map fun x=>ii x) 3),(22,.pin plp),(23,.cells [.ptr 0 0] 124),(0,.cells (yE inp tk) 170),(1,.rwin 8 N.length (N.flatMap Prm.vals)),(2,swS S),(3,.row 2 N.length ((nY N A st (i+1)).1.flatMap Ste.cells) 139),(4,.row 1 N.length ((due 0).map fun x=>ii x) 3),(5,.row 1 N.length ((due 1).map fun x=>ii x) 3),(6,.row 1 N.length ((due 2).map fun x=>ii x) 3),(7,.row 1 N.length ((due 3).map fun x=>ii x) 3),(8,.row 1 N.length ((due 4).map fun x=>ii x) 3),(9,.row 1 N.length ((due 5).map fun x=>ii x) 3),(10,.row 1 N.length ((due 6).map fun x=>ii x) 3),(11,.row 1 N.length ((due 7).map fun x=>ii x) 3),(12,.row 1 N.length ((due 8).map fun x=>ii x) 3),(13,.row 1 N.length ((due 9).map fun x=>ii x) 3),(14,.row 1 N.length ((due 10).map fun x=>ii x) 3),(15,.row 1 N.length ((due 11).map fun x=>ii x) 3),(16,.row 1 N.length ((due 12).map fun x=>ii x) 3),(17,.row 1 N.length ((due 13).map fun x=>ii x) 3),(18,.row 1 N.length ((due 14).map fun x=>ii x) 3),(19,.row 1 N.length ((due 15).map fun x=>ii x) 3),(21,.rwin 1 ins.length (qD ins))]) 24 59 25 (by decide) (by repeat first|exact trivial|refine⟨⟨rfl,ltb rfl⟩,?_⟩|refine⟨⟨rfl,trivial⟩,?_⟩|refine⟨⟨wsx (by omega),trivial⟩,?_⟩|refine⟨⟨congrArg some (congrArg SV.opq (qU (show 4+k<24 by omega)).symm),(show 4+k<25 by omega)⟩,?_⟩) ⟨⟨by rw[en];exact congrArg some (by simp only[SObj.ren];rw[qY (S:=fun _=>False) (fun i hi=>hi.elim) _ (qB _ _)];simp only[List.map_append,List.length_append];rfl),by omega,Os.h _⟩,⟨congrArg some (oren_fix (S:=(· < 24)) (o:=.pin plp) (fun i hi=>qU hi) (pnx hcov rfl)).symm,by omega,pnx hcov rfl⟩,⟨congrArg some (oren_fix (S:=(· < 24)) (o:=.cells [.ptr 0 0] 124) (fun i hi=>qU hi) (⟨ltb rfl,trivial⟩)).symm,by omega,⟨ltb rfl,trivial⟩⟩,⟨congrArg some (oren_fix (S:=(· < 24)) (o:=.cells (yE inp tk) 170) (fun i hi=>qU hi) (SV.s7 (by decide) (jN _ _))).symm,by omega,SV.s7 (by decide) (jN _ _)⟩,⟨congrArg some (oren_fix (S:=(· < 24)) (o:=.rwin 8 N.length (N.flatMap Prm.vals)) (fun i hi=>qU hi) (trivial)).symm,by omega,trivial⟩,⟨congrArg some (oren_fix (S:=(· < 24)) (o:=swS S) (fun i hi=>qU hi) (trivial)).symm,by omega,trivial⟩,⟨by rw[en];exact congrArg some (by simp only[SObj.ren];rw[qY (S:=fun _=>False) (fun i hi=>hi.elim) _ (qS _ _)]),by omega,Os.h _⟩,⟨congrArg some (oren_fix (S:=(· < 24)) (o:=.row 1 N.length ((due 0).map fun x=>ii x) 3) (fun i hi=>qU hi) (qB _ _)).symm,by omega,Os.h _⟩,⟨congrArg some (oren_fix (S:=(· < 24)) (o:=.row 1 N.length ((due 1).map fun x=>ii x) 3) (fun i hi=>qU hi) (qB _ _)).symm,by omega,Os.h _⟩,⟨congrArg some (oren_fix (S:=(· < 24)) (o:=.row 1 N.length ((due 2).map fun x=>ii x) 3) (fun i hi=>qU hi) (qB _ _)).symm,by omega,Os.h _⟩,⟨congrArg some (oren_fix (S:=(· < 24)) (o:=.row 1 N.length ((due 3).map fun x=>ii x) 3) (fun i hi=>qU hi) (qB _ _)).symm,by omega,Os.h _⟩,⟨congrArg some (oren_fix (S:=(· < 24)) (o:=.row 1 N.length ((due 4).map fun x=>ii x) 3) (fun i hi=>qU hi) (qB _ _)).symm,by omega,Os.h _⟩,⟨congrArg some (oren_fix (S:=(· < 24)) (o:=.row 1 N.length ((due 5).map fun x=>ii x) 3) (fun i hi=>qU hi) (qB _ _)).symm,by omega,Os.h _⟩,⟨congrArg some (oren_fix (S:=(· < 24)) (o:=.row 1 N.length ((due 6).map fun x=>ii x) 3) (fun i hi=>qU hi) (qB _ _)).symm,by omega,Os.h _⟩,⟨congrArg some (oren_fix (S:=(· < 24)) (o:=.row 1 N.length ((due 7).map fun x=>ii x) 3) (fun i hi=>qU hi) (qB _ _)).symm,by omega,Os.h _⟩,⟨congrArg some (oren_fix (S:=(· < 24)) (o:=.row 1 N.length ((due 8).map fun x=>ii x) 3) (fun i hi=>qU hi) (qB _ _)).symm,by omega,Os.h _⟩,⟨congrArg some (oren_fix (S:=(· < 24)) (o:=.row 1 N.length ((due 9).map fun x=>ii x) 3) (fun i hi=>qU hi) (qB _ _)).symm,by omega,Os.h _⟩,⟨congrArg some (oren_fix (S:=(· < 24)) (o:=.row 1 N.length ((due 10).map fun x=>ii x) 3) (fun i hi=>qU hi) (qB _ _)).symm,by omega,Os.h _⟩,⟨congrArg some (oren_fix (S:=(· < 24)) (o:=.row 1 N.length ((due 11).map fun x=>ii x) 3) (fun i hi=>qU hi) (qB _ _)).symm,by omega,Os.h _⟩,⟨congrArg some (oren_fix (S:=(· < 24)) (o:=.row 1 N.length ((due 12).map fun x=>ii x) 3) (fun i hi=>qU hi) (qB _ _)).symm,by omega,Os.h _⟩,⟨congrArg some (oren_fix (S:=(· < 24)) (o:=.row 1 N.length ((due 13).map fun x=>ii x) 3) (fun i hi=>qU hi) (qB _ _)).symm,by omega,Os.h _⟩,⟨congrArg some (oren_fix (S:=(· < 24)) (o:=.row 1 N.length ((due 14).map fun x=>ii x) 3) (fun i hi=>qU hi) (qB _ _)).symm,by omega,Os.h _⟩,⟨congrArg some (oren_fix (S:=(· < 24)) (o:=.row 1 N.length ((due 15).map fun x=>ii x) 3) (fun i hi=>qU hi) (qB _ _)).symm,by omega,Os.h _⟩,⟨congrArg some (oren_fix (S:=(· < 24)) (o:=.rwin 1 ins.length (qD ins)) (fun i hi=>qU hi) (trivial)).symm,by omega,trivial⟩,trivial⟩ (fun q hq=>⟨qU (Nat.lt_of_lt_of_le (hLB q hq) (show 22≤24 by decide)),Nat.lt_of_lt_of_le (hLB q hq) (show 22≤25 by decide)⟩) (ih trivial)
 ·intro _
  have hBe:nY N A st N.length=B:=hB
  rw[hBe]
  refine Run.W2 hc ?_
  conv=>whnf
  rw[decide_eq_false (show ¬((N.length:Nat):Int)<(N.length:Int)by omega)]
  conv=>whnf
  have hrep:SObj.row 1 N.length (List.replicate N.length (.v (.int .i64 0))) 3=SObj.row 1 N.length ((List.replicate N.length 0).map fun x=>ii x) 3:=by rw[List.map_replicate]
  refine Run.clear1 (j:=4+k) (xs:=A.map fun x=>ii x) (hc w L0 none nofun) rfl rfl rfl rfl rfl (by rw[←hA];rcases lt16 hk16 with rfl|rfl|rfl|rfl|rfl|rfl|rfl|rfl|rfl|rfl|rfl|rfl|rfl|rfl|rfl|rfl<;>rfl) rfl rfl rfl rfl rfl ?_
  apply joinN (c:=⟨Try.prog,tab,[(80,vV vd sS sB)],60,Try.f60,[],w,L0,none⟩) (R:=RR) [(2,.ptr 23 0),(1,.opq 21),(5,.opq 24)] [(24,.row 1 B.2.1.length (B.2.1.map fun x=>ii x) 3),(22,.pin plp),(23,.cells [.ptr 0 0] 124),(0,.cells (yE inp tk) 170),(1,.rwin 8 N.length (N.flatMap Prm.vals)),(2,swS S),(3,.row 2 N.length (B.1.flatMap Ste.cells) 139),(4,.row 1 N.length ((dClr k N.length due 0).map fun x=>ii x) 3),(5,.row 1 N.length ((dClr k N.length due 1).map fun x=>ii x) 3),(6,.row 1 N.length ((dClr k N.length due 2).map fun x=>ii x) 3),(7,.row 1 N.length ((dClr k N.length due 3).map fun x=>ii x) 3),(8,.row 1 N.length ((dClr k N.length due 4).map fun x=>ii x) 3),(9,.row 1 N.length ((dClr k N.length due 5).map fun x=>ii x) 3),(10,.row 1 N.length ((dClr k N.length due 6).map fun x=>ii x) 3),(11,.row 1 N.length ((dClr k N.length due 7).map fun x=>ii x) 3),(12,.row 1 N.length ((dClr k N.length due 8).map fun x=>ii x) 3),(13,.row 1 N.length ((dClr k N.length due 9).map fun x=>ii x) 3),(14,.row 1 N.length ((dClr k N.length due 10).map fun x=>ii x) 3),(15,.row 1 N.length ((dClr k N.length due 11).map fun x=>ii x) 3),(16,.row 1 N.length ((dClr k N.length due 12).map fun x=>ii x) 3),(17,.row 1 N.length ((dClr k N.length due 13).map fun x=>ii x) 3),(18,.row 1 N.length ((dClr k N.length due 14).map fun x=>ii x) 3),(19,.row 1 N.length ((dClr k N.length due 15).map fun x=>ii x) 3),(21,.rwin 1 ins.length (qD ins))] 25
  ·intro cont
   rcases lt16 hk16 with rfl|rfl|rfl|rfl|rfl|rfl|rfl|rfl|rfl|rfl|rfl|rfl|rfl|rfl|rfl|rfl<;>exact Run.tH cont ⟨⟨rfl,ltb rfl⟩,⟨rfl,ltb rfl⟩,⟨rfl,ltb rfl⟩,trivial⟩ (by repeat first|exact trivial|refine⟨⟨rfl,by omega,Os.h _⟩,?_⟩|refine⟨⟨rfl,by omega,pnx hcov rfl⟩,?_⟩|refine⟨⟨rfl,by omega,⟨ltb rfl,trivial⟩⟩,?_⟩|refine⟨⟨rfl,by omega,SV.s7 (by decide) (jN _ _)⟩,?_⟩|refine⟨⟨by first|rfl|exact congrArg some hrep,by omega,Os.h _⟩,?_⟩) (lbx hLB rfl)
  obtain⟨due1,hd1⟩ :∃d,dClr k N.length due=d:=⟨_,rfl⟩
  have hld1 :∀j,j<16→(due1 j).length=N.length:=by rw[←hd1];exact fun j hj=>dClr_len hok.ld j hj
  rw[hd1]
  refine Run.W2 hc ?_
  conv=>whnf
  refine Run.callK nfrom_spec (ent _ _ Try.func94 (by kernel_rfl) rfl) rfl rfl rfl rfl rfl rfl rfl [.mp 2,.opq 24,.opq 21] rfl (rq [(0,2),(1,24),(2,21)]) rfl (fun i hi=>by have:i=0∨i=1∨i=2:=(by omega);rcases this with rfl|rfl|rfl<;>decide) [] rfl (fun i hi=>by cases hi) rfl
   trivial rfl trivial (fun i hi=>by cases hi) (.fn 106 [.ptr 25 0,.ptr 26 0,.ptr 27 0]) [(25,.cells [.mp 2] 165),(26,.cells [.opq 24] 27),(27,.cells [.opq 21] 27)] [(24,.row 1 B.2.1.length (B.2.1.map fun x=>ii x) 3),(22,.pin plp),(23,.cells [.ptr 0 0] 124),(0,.cells (yE inp tk) 170),(1,.rwin 8 N.length (N.flatMap Prm.vals)),(2,swS S),(3,.row 2 N.length (B.1.flatMap Ste.cells) 139),(4,.row 1 N.length ((due1 0).map fun x=>ii x) 3),(5,.row 1 N.length ((due1 1).map fun x=>ii x) 3),(6,.row 1 N.length ((due1 2).map fun x=>ii x) 3),(7,.row 1 N.length ((due1 3).map fun x=>ii x) 3),(8,.row 1 N.length ((due1 4).map fun x=>ii x) 3),(9,.row 1 N.length ((due1 5).map fun x=>ii x) 3),(10,.row 1 N.length ((due1 6).map fun x=>ii x) 3),(11,.row 1 N.length ((due1 7).map fun x=>ii x) 3),(12,.row 1 N.length ((due1 8).map fun x=>ii x) 3),(13,.row 1 N.length ((due1 9).map fun x=>ii x) 3),(14,.row 1 N.length ((due1 10).map fun x=>ii x) 3),(15,.row 1 N.length ((due1 11).map fun x=>ii x) 3),(16,.row 1 N.length ((due1 12).map fun x=>ii x) 3),(17,.row 1 N.length ((due1 13).map fun x=>ii x) 3),(18,.row 1 N.length ((due1 14).map fun x=>ii x) 3),(19,.row 1 N.length ((due1 15).map fun x=>ii x) 3),(21,.rwin 1 ins.length (qD ins))] 28 rfl rfl ⟨⟨3,_,rfl,rfl,rfl,rfl⟩,⟨4,_,rfl,rfl,rfl,rfl⟩,⟨5,_,rfl,rfl,rfl,rfl⟩,trivial⟩ rfl rfl ?_
  refine Run.W2 hc ?_
  conv=>whnf
  obtain⟨xl,hxl⟩ :∃l,ylS S (qK B.2.1 ins)=l:=⟨_,rfl⟩
  have hxm :∀s∈xl,s∈S:=fun s hs=>by
   rw[←hxl]at hs
   obtain⟨q,_,hq⟩:=List.mem_flatMap.1 hs
   exact(List.mem_filter.1 hq).1
  refine Run.rangeX (T0:=[(2,.ptr 23 0),(5,.opq 24)]) (caps:=[.ptr 25 0,.ptr 26 0,.ptr 27 0]) rfl (x:=.tmp 63) rfl rfl (ent _ _ Try.func106 (by kernel_rfl) rfl) (fun i=>[(24,.row 1 B.2.1.length (B.2.1.map fun x=>ii x) 3),(25,.cells [.mp 2] 165),(26,.cells [.opq 24] 27),(27,.cells [.opq 21] 27),(22,.pin plp),(23,.cells [.ptr 0 0] 124),(0,.cells (yE inp tk) 170),(1,.rwin 8 N.length (N.flatMap Prm.vals)),(2,swS S),(3,.row 2 N.length (B.1.flatMap Ste.cells) 139),(4,.row 1 N.length ((dY tk due1 (ylS S (qK B.2.1 ins)) i 0).map fun x=>ii x) 3),(5,.row 1 N.length ((dY tk due1 (ylS S (qK B.2.1 ins)) i 1).map fun x=>ii x) 3),(6,.row 1 N.length ((dY tk due1 (ylS S (qK B.2.1 ins)) i 2).map fun x=>ii x) 3),(7,.row 1 N.length ((dY tk due1 (ylS S (qK B.2.1 ins)) i 3).map fun x=>ii x) 3),(8,.row 1 N.length ((dY tk due1 (ylS S (qK B.2.1 ins)) i 4).map fun x=>ii x) 3),(9,.row 1 N.length ((dY tk due1 (ylS S (qK B.2.1 ins)) i 5).map fun x=>ii x) 3),(10,.row 1 N.length ((dY tk due1 (ylS S (qK B.2.1 ins)) i 6).map fun x=>ii x) 3),(11,.row 1 N.length ((dY tk due1 (ylS S (qK B.2.1 ins)) i 7).map fun x=>ii x) 3),(12,.row 1 N.length ((dY tk due1 (ylS S (qK B.2.1 ins)) i 8).map fun x=>ii x) 3),(13,.row 1 N.length ((dY tk due1 (ylS S (qK B.2.1 ins)) i 9).map fun x=>ii x) 3),(14,.row 1 N.length ((dY tk due1 (ylS S (qK B.2.1 ins)) i 10).map fun x=>ii x) 3),(15,.row 1 N.length ((dY tk due1 (ylS S (qK B.2.1 ins)) i 11).map fun x=>ii x) 3),(16,.row 1 N.length ((dY tk due1 (ylS S (qK B.2.1 ins)) i 12).map fun x=>ii x) 3),(17,.row 1 N.length ((dY tk due1 (ylS S (qK B.2.1 ins)) i 13).map fun x=>ii x) 3),(18,.row 1 N.length ((dY tk due1 (ylS S (qK B.2.1 ins)) i 14).map fun x=>ii x) 3),(19,.row 1 N.length ((dY tk due1 (ylS S (qK B.2.1 ins)) i 15).map fun x=>ii x) 3),(21,.rwin 1 ins.length (qD ins))]) [24,25,26,27,22,23,0,3,4,5,6,7,8,9,10,11,12,13,14,15,16,17,18,19] (ylV S (qK B.2.1 ins)) (by simp) ?_ ?_ ?_ ?_ ?_ ?_
   (fun ρ w1 w2=> ∀m,w.heap[ρ.s 2]? = some (yL m)→(∀x∈m,x.1.pair=false)→(∀k,RowIn w (fun b=>b<w.heap.size ∧ ∀p∈L0,p.2≠b) (kval m k) 4 (zH S k).length ((zH S k).flatMap Syn.vals))→FRaw S (ρ.s 25) (ρ.s 2) m (ρ.s 26) ((SV.opq 24).conc ρ) B.2.1 (ρ.s 27) ((SV.opq 21).conc ρ) ins w2) ?_ ?_ ?_ ?_
  ·exact AllP.mem (l:=[64]) ⟨Nat.le_of_ble_eq_true rfl,trivial⟩
  ·intro v hv
   obtain⟨s,_,rfl⟩:=List.mem_map.1 hv
   rfl
  ·exact AllP.mem ⟨rfl,rfl,trivial⟩
  ·exact AllP.mem (by repeat first|exact trivial|refine⟨rfl,?_⟩)
  ·exact fun i=>AllP.mem ⟨⟨rfl,by omega,qB _ _,.inr ⟨rfl,by simp,_,rfl,fun _ h=>h⟩⟩,⟨rfl,by omega,⟨ltb rfl,trivial⟩,.inr ⟨rfl,by simp,_,rfl,fun _ h=>h⟩⟩,⟨rfl,by omega,⟨ltb rfl,trivial⟩,.inr ⟨rfl,by simp,_,rfl,fun _ h=>h⟩⟩,⟨rfl,by omega,⟨ltb rfl,trivial⟩,.inr ⟨rfl,by simp,_,rfl,fun _ h=>h⟩⟩,⟨rfl,by omega,pnx hcov rfl,.inr ⟨rfl,by simp,_,rfl,fun _ h=>h⟩⟩,⟨rfl,by omega,⟨ltb rfl,trivial⟩,.inr ⟨rfl,by simp,_,rfl,fun _ h=>h⟩⟩,⟨rfl,by omega,SV.s7 (by decide) (jN _ _),.inr ⟨rfl,by simp,_,rfl,fun _ h=>h⟩⟩,⟨rfl,by omega,trivial,.inl ⟨rfl,by simp,fun j=>rfl⟩⟩,⟨rfl,by omega,trivial,.inl ⟨rfl,by simp,fun j=>rfl⟩⟩,⟨rfl,by omega,qS _ _,.inr ⟨rfl,by simp,_,rfl,fun _ h=>h⟩⟩,⟨rfl,by omega,qB _ _,.inr ⟨rfl,by simp,_,rfl,fun _ h=>h⟩⟩,⟨rfl,by omega,qB _ _,.inr ⟨rfl,by simp,_,rfl,fun _ h=>h⟩⟩,⟨rfl,by omega,qB _ _,.inr ⟨rfl,by simp,_,rfl,fun _ h=>h⟩⟩,⟨rfl,by omega,qB _ _,.inr ⟨rfl,by simp,_,rfl,fun _ h=>h⟩⟩,⟨rfl,by omega,qB _ _,.inr ⟨rfl,by simp,_,rfl,fun _ h=>h⟩⟩,⟨rfl,by omega,qB _ _,.inr ⟨rfl,by simp,_,rfl,fun _ h=>h⟩⟩,⟨rfl,by omega,qB _ _,.inr ⟨rfl,by simp,_,rfl,fun _ h=>h⟩⟩,⟨rfl,by omega,qB _ _,.inr ⟨rfl,by simp,_,rfl,fun _ h=>h⟩⟩,⟨rfl,by omega,qB _ _,.inr ⟨rfl,by simp,_,rfl,fun _ h=>h⟩⟩,⟨rfl,by omega,qB _ _,.inr ⟨rfl,by simp,_,rfl,fun _ h=>h⟩⟩,⟨rfl,by omega,qB _ _,.inr ⟨rfl,by simp,_,rfl,fun _ h=>h⟩⟩,⟨rfl,by omega,qB _ _,.inr ⟨rfl,by simp,_,rfl,fun _ h=>h⟩⟩,⟨rfl,by omega,qB _ _,.inr ⟨rfl,by simp,_,rfl,fun _ h=>h⟩⟩,⟨rfl,by omega,qB _ _,.inr ⟨rfl,by simp,_,rfl,fun _ h=>h⟩⟩,⟨rfl,by omega,qB _ _,.inr ⟨rfl,by simp,_,rfl,fun _ h=>h⟩⟩,⟨rfl,by omega,qB _ _,.inr ⟨rfl,by simp,_,rfl,fun _ h=>h⟩⟩,⟨rfl,by omega,trivial,.inl ⟨rfl,by simp,fun j=>rfl⟩⟩,trivial⟩
  ·decide
  ·intro ρ w1 hW1 l N0 J hext hJ hy
   obtain⟨_,_,h20,⟨hs1,hs2⟩,m,hm,hmk,hrow⟩:=hW1.mem 2 _ rfl
   have e:SV.concs ρ [.ptr 25 0,.ptr 26 0,.ptr 27 0]=[Value.pointer (some ⟨ρ.s 25,0,none⟩),Value.pointer (some ⟨ρ.s 26,0,none⟩),Value.pointer (some ⟨ρ.s 27,0,none⟩)]:=by
    have o25:ρ.o 25=0:=(hW1.mem 25 _ rfl).2.2.1
    have o26:ρ.o 26=0:=(hW1.mem 26 _ rfl).2.2.1
    have o27:ρ.o 27=0:=(hW1.mem 27 _ rfl).2.2.1
    simp only[SV.concs,SV.conc,o25,o26,o27]
   rw[e]
   exact from_iterN S hok.lS (ρ.s 25) (ρ.s 2) m (ρ.s 26) _ B.2.1 (ρ.s 27) _ ins (by have:=hout;omega) hok.lin l N0 J hext (fun i w2 h=>⟨(hJ i w2 h).1 m hm hmk hrow,(hJ i w2 h).2⟩) hy
  ·intro ρ w1 i L' ρ' a d w2 hW1 hwid hW2 hag m hm hmk hrow
   have ha :∀j,j<28→ρ'.s j=ρ.s j∧ρ'.o j=ρ.o j∧ρ'.h j=ρ.h j:=fun j hj=>hag j hj
   obtain⟨_,_,h20,⟨hs1,hs2⟩,_⟩:=hW2.mem 2 (swS S) rfl
   have s2:=(ha 2 (by decide)).1
   have hcell :∀(j:Nat) (x:SV) (t:TypeId),j<28→Sx.look (inLoop 28 a _ _ _ _ d [(24,.row 1 B.2.1.length (B.2.1.map fun x=>ii x) 3),(25,.cells [.mp 2] 165),(26,.cells [.opq 24] 27),(27,.cells [.opq 21] 27),(22,.pin plp),(23,.cells [.ptr 0 0] 124),(0,.cells (yE inp tk) 170),(1,.rwin 8 N.length (N.flatMap Prm.vals)),(2,swS S),(3,.row 2 N.length (B.1.flatMap Ste.cells) 139),(4,.row 1 N.length ((dY tk due1 (ylS S (qK B.2.1 ins)) i 0).map fun x=>ii x) 3),(5,.row 1 N.length ((dY tk due1 (ylS S (qK B.2.1 ins)) i 1).map fun x=>ii x) 3),(6,.row 1 N.length ((dY tk due1 (ylS S (qK B.2.1 ins)) i 2).map fun x=>ii x) 3),(7,.row 1 N.length ((dY tk due1 (ylS S (qK B.2.1 ins)) i 3).map fun x=>ii x) 3),(8,.row 1 N.length ((dY tk due1 (ylS S (qK B.2.1 ins)) i 4).map fun x=>ii x) 3),(9,.row 1 N.length ((dY tk due1 (ylS S (qK B.2.1 ins)) i 5).map fun x=>ii x) 3),(10,.row 1 N.length ((dY tk due1 (ylS S (qK B.2.1 ins)) i 6).map fun x=>ii x) 3),(11,.row 1 N.length ((dY tk due1 (ylS S (qK B.2.1 ins)) i 7).map fun x=>ii x) 3),(12,.row 1 N.length ((dY tk due1 (ylS S (qK B.2.1 ins)) i 8).map fun x=>ii x) 3),(13,.row 1 N.length ((dY tk due1 (ylS S (qK B.2.1 ins)) i 9).map fun x=>ii x) 3),(14,.row 1 N.length ((dY tk due1 (ylS S (qK B.2.1 ins)) i 10).map fun x=>ii x) 3),(15,.row 1 N.length ((dY tk due1 (ylS S (qK B.2.1 ins)) i 11).map fun x=>ii x) 3),(16,.row 1 N.length ((dY tk due1 (ylS S (qK B.2.1 ins)) i 12).map fun x=>ii x) 3),(17,.row 1 N.length ((dY tk due1 (ylS S (qK B.2.1 ins)) i 13).map fun x=>ii x) 3),(18,.row 1 N.length ((dY tk due1 (ylS S (qK B.2.1 ins)) i 14).map fun x=>ii x) 3),(19,.row 1 N.length ((dY tk due1 (ylS S (qK B.2.1 ins)) i 15).map fun x=>ii x) 3),(21,.rwin 1 ins.length (qD ins))]) j=some (.cells [x] t)→w2.cell? ⟨ρ.s j,0,none⟩=some (x.conc ρ'):=fun j x t hj hl=>by
    have hc:=hW2.cell hl (cs:=[x]) rfl (j:=0) (c:=x) rfl
    have ho:ρ'.o j=0:=(hW2.mem j _ hl).2.2.1
    rw[ho,(ha j hj).1]at hc
    exact hc
   have cag :∀j,j<28→(SV.opq j).conc ρ'=(SV.opq j).conc ρ:=fun j hj=>by simp only[SV.conc,(ha j hj).2.2]
   refine⟨⟨?_,?_,hmk,fun k=>(hrow k).mono fun b hb=>⟨trivial,?_⟩⟩,?_,?_,?_,?_⟩
   ·have:=hcell 25 (.mp 2) 165 (by decide) rfl
    rw[this]
    simp only[SV.conc,h20,s2,if_true]
   ·rw[hW2.keep _ (by rw[←s2];exact hs1) (fun p hp=>by rw[←s2];exact hs2 p hp)];exact hm
   ·rw[hW2.keep b hb.1 (fun p hp he=>by
     rcases hwid.own p hp with⟨q,hq,hqe⟩|hge
     ·exact hb.2 q hq (hqe.trans he)
     ·have h1:=hb.1
      have hge:w.heap.size≤p.2:=hge
      omega)]
   ·rw[←cag 24 (by decide)];exact hcell 26 (.opq 24) 27 (by decide) rfl
   ·rw[←cag 24 (by decide)]
    have:=hW2.rowsAtR (i:=24) rfl (by decide)
    rwa [show(B.2.1.map fun x=>ii x)=(qD B.2.1).map .v by simp[qD],zN]at this
   ·rw[←cag 21 (by decide)];exact hcell 27 (.opq 21) 27 (by decide) rfl
   ·rw[←cag 21 (by decide)];exact hW2.rowsAt (i:=21) rfl
  ·intro i v hv w1 L1 l a d pl hL1 hl hcov1
   obtain⟨hil,hve⟩ :∃h:i<xl.length,v=[.agg xl[i].vals.toArray]:=by
    unfold ylV at hv
    rw[hxl,List.getElem?_map]at hv
    rcases Nat.lt_or_ge i xl.length with h|h
    ·rw[List.getElem?_eq_getElem h]at hv
     exact⟨h,(Option.some.inj hv).symm⟩
    ·rw[List.getElem?_eq_none h]at hv;cases hv
   obtain⟨s,hs⟩ :∃s,xl[i]=s:=⟨_,rfl⟩
   have hsS:s∈S:=hxm s (by rw[←hs];exact List.getElem_mem hil)
   have to0:=hok.to0 s hsS
   have to1:=hok.to1 s hsS
   have d0:=hok.d0 s hsS
   have d1:=hok.d1 s hsS
   have ht0:=hok.t0
   have ht1:=hok.t1
   rw[hs]at hve
   subst hve
   obtain⟨k2,hk2⟩ :∃k,zE (tk+s.d)=k:=⟨_,rfl⟩
   have hk2l:k2<16:=by rw[←hk2];exact yI
   have hdl :∀j,j<16→((dY tk due1 (ylS S (qK B.2.1 ins)) i) j).length=N.length:=fun j hj=>by rw[dY_len];exact hld1 j hj
   have htl:s.to.toNat<((dY tk due1 (ylS S (qK B.2.1 ins)) i) k2).length:=by rw[hdl k2 hk2l];omega
   have hdn:dY tk due1 (ylS S (qK B.2.1 ins)) (i+1)=fun j=>if j=k2 then((dY tk due1 (ylS S (qK B.2.1 ins)) i) j).set s.to.toNat (W (((dY tk due1 (ylS S (qK B.2.1 ins)) i) j).getD s.to.toNat 0+s.w))else(dY tk due1 (ylS S (qK B.2.1 ins)) i) j:=by
    rw[dY_succ tk due1 (show i<(ylS S (qK B.2.1 ins)).length by rw[hxl];exact hil)]
    have e:(ylS S (qK B.2.1 ins))[i]'(by rw[hxl];exact hil)=s:=by rw[←hs];exact getElem_congr hxl rfl _
    rw[e]
    unfold dSt
    rw[hk2]
   have hset:(((dY tk due1 (ylS S (qK B.2.1 ins)) i) k2).map fun x=>ii x).set s.to.toNat (ii (W (((dY tk due1 (ylS S (qK B.2.1 ins)) i) k2)[s.to.toNat]+s.w)))=(((dY tk due1 (ylS S (qK B.2.1 ins)) i) k2).set s.to.toNat (W (((dY tk due1 (ylS S (qK B.2.1 ins)) i) k2).getD s.to.toNat 0+s.w))).map fun x=>ii x:=by
    rw[List.map_set,List.getD_eq_getElem?_getD,List.getElem?_eq_getElem htl];rfl
   have hlid :∀p∈L1,p.1<31:=fun p hp=>by
    rcases hL1 p hp with h|h|h
    ·omega
    ·omega
    ·have :∀q∈([24,25,26,27,22,23,0,3,4,5,6,7,8,9,10,11,12,13,14,15,16,17,18,19]:List Nat),q<31:=by decide
     exact this _ h
   refine Run.W1 (hc w1 L1 (some (29,l)) (fun q hq=>by obtain rfl:=Option.some.inj hq;exact hl)) ?_
   conv=>whnf
   refine Run.drawE (hc w1 L1 (some (29,l)) (fun q hq=>by obtain rfl:=Option.some.inj hq;exact hl)) rfl fun lo hlo=> ?_
   obtain⟨p,r,rfl,hp,hr,hex,hsp,hsr,hbef,haft,hcl⟩:=hlo.split 3 (by decide)
   have b0:0∈p:=hbef 0 (jS rfl)
   have b1:1∈p:=hbef 1 (jS rfl)
   have b2:2∈p:=hbef 2 (jS rfl)
   obtain⟨a6,n6⟩:=haft 6 (jS rfl) (by decide)
   obtain⟨a7,n7⟩:=haft 7 (jS rfl) (by decide)
   obtain⟨a10,n10⟩:=haft 10 (jS rfl) (by decide)
   obtain⟨a11,n11⟩:=haft 11 (jS rfl) (by decide)
   obtain⟨a12,n12⟩:=haft 12 (jS rfl) (by decide)
   have dis :∀i,i<13→i∈p→i∉r:=fun i hi hip=>by
    by_cases e:i=3
    ·subst e;exact hsr
    ·rcases hex i hi e with h|h
     ·exact h.2
     ·exact absurd hip h.1
   have inr :∀i,i<13→i≠3→i∉p→i∈r:=fun i hi e hip=>by
    rcases hex i hi e with h|h
    ·exact absurd h.1 hip
    ·exact h.2
   have three :∀a b:Nat,TP _ a b→(a∈p∧b∈p)∨(a∈p∧b∉p)∨(a∉p∧b∉p):=fun a b ht=>by
    by_cases ca:a∈p
    ·by_cases cb:b∈p
     ·exact .inl ⟨ca,cb⟩
     ·exact .inr (.inl ⟨ca,cb⟩)
    ·exact .inr (.inr ⟨ca,fun h=>ca (hcl a b ht h)⟩)
   rcases three 4 5 (jS rfl)with⟨c4,c5⟩|⟨c4,c5⟩|⟨c4,c5⟩<;>rcases three 8 9 (jS rfl)with⟨c8,c9⟩|⟨c8,c9⟩|⟨c8,c9⟩
   refine Run.s8 (hc w1 L1 (some (29,l)) (fun q hq=>by obtain rfl:=Option.some.inj hq;exact hl)) [0,1,2,4,5,8,9] [3,6,7,10,11,12] hp ⟨b0,b1,b2,c4,c5,c8,c9,trivial⟩ ⟨hsp,n6,n7,n10,n11,n12,trivial⟩ (by decide) rfl ?_
   rotate_left
   refine Run.s8 (hc w1 L1 (some (29,l)) (fun q hq=>by obtain rfl:=Option.some.inj hq;exact hl)) [0,1,2,4,5,8] [3,6,7,9,10,11,12] hp ⟨b0,b1,b2,c4,c5,c8,trivial⟩ ⟨hsp,n6,n7,c9,n10,n11,n12,trivial⟩ (by decide) rfl ?_
   rotate_left
   refine Run.s8 (hc w1 L1 (some (29,l)) (fun q hq=>by obtain rfl:=Option.some.inj hq;exact hl)) [0,1,2,4,5] [3,6,7,8,9,10,11,12] hp ⟨b0,b1,b2,c4,c5,trivial⟩ ⟨hsp,n6,n7,c8,c9,n10,n11,n12,trivial⟩ (by decide) rfl ?_
   rotate_left
   refine Run.s8 (hc w1 L1 (some (29,l)) (fun q hq=>by obtain rfl:=Option.some.inj hq;exact hl)) [0,1,2,4,8,9] [3,5,6,7,10,11,12] hp ⟨b0,b1,b2,c4,c8,c9,trivial⟩ ⟨hsp,c5,n6,n7,n10,n11,n12,trivial⟩ (by decide) rfl ?_
   rotate_left
   refine Run.s8 (hc w1 L1 (some (29,l)) (fun q hq=>by obtain rfl:=Option.some.inj hq;exact hl)) [0,1,2,4,8] [3,5,6,7,9,10,11,12] hp ⟨b0,b1,b2,c4,c8,trivial⟩ ⟨hsp,c5,n6,n7,c9,n10,n11,n12,trivial⟩ (by decide) rfl ?_
   rotate_left
   refine Run.s8 (hc w1 L1 (some (29,l)) (fun q hq=>by obtain rfl:=Option.some.inj hq;exact hl)) [0,1,2,4] [3,5,6,7,8,9,10,11,12] hp ⟨b0,b1,b2,c4,trivial⟩ ⟨hsp,c5,n6,n7,c8,c9,n10,n11,n12,trivial⟩ (by decide) rfl ?_
   rotate_left
   refine Run.s8 (hc w1 L1 (some (29,l)) (fun q hq=>by obtain rfl:=Option.some.inj hq;exact hl)) [0,1,2,8,9] [3,4,5,6,7,10,11,12] hp ⟨b0,b1,b2,c8,c9,trivial⟩ ⟨hsp,c4,c5,n6,n7,n10,n11,n12,trivial⟩ (by decide) rfl ?_
   rotate_left
   refine Run.s8 (hc w1 L1 (some (29,l)) (fun q hq=>by obtain rfl:=Option.some.inj hq;exact hl)) [0,1,2,8] [3,4,5,6,7,9,10,11,12] hp ⟨b0,b1,b2,c8,trivial⟩ ⟨hsp,c4,c5,n6,n7,c9,n10,n11,n12,trivial⟩ (by decide) rfl ?_
   rotate_left
   refine Run.s8 (hc w1 L1 (some (29,l)) (fun q hq=>by obtain rfl:=Option.some.inj hq;exact hl)) [0,1,2] [3,4,5,6,7,8,9,10,11,12] hp ⟨b0,b1,b2,trivial⟩ ⟨hsp,c4,c5,n6,n7,c8,c9,n10,n11,n12,trivial⟩ (by decide) rfl ?_
   rotate_left
   all_goals
    conv=>whnf
    refine⟨by kernel_rfl,?_⟩
    refine Run.callK (nrow_spec inp tk s.d ht0 (by omega) (by omega) (by omega)) (ent _ _ Try.func93 (by kernel_rfl) rfl) rfl rfl rfl rfl rfl rfl rfl [.ptr 0 0,ii s.d] rfl id rfl (fun q hq=>by show q<45;omega) [0] rfl (fun q _ j _ hne=>hne) rfl
     ⟨⟨by omega,jN _ _⟩,trivial⟩ rfl ⟨⟨_,rfl,by rw[qC];exact Conv.refl _⟩,trivial⟩ (fun q hq=>hq) (.opq (4+zE (tk+s.d))) [(0,.cells (yE inp tk) 170)] ((31,.cells [ii s.fr,ii s.to,ii s.w,ii s.d] 55)::(30,.pin pl)::(29,_)::(28,_)::(24,.row 1 B.2.1.length (B.2.1.map fun x=>ii x) 3)::(25,.cells [.mp 2] 165)::(26,.cells [.opq 24] 27)::(27,.cells [.opq 21] 27)::(22,.pin plp)::(23,.cells [.ptr 0 0] 124)::(1,.rwin 8 N.length (N.flatMap Prm.vals))::(2,swS S)::(3,.row 2 N.length (B.1.flatMap Ste.cells) 139)::(4,.row 1 N.length ((dY tk due1 (ylS S (qK B.2.1 ins)) i 0).map fun x=>ii x) 3)::(5,.row 1 N.length ((dY tk due1 (ylS S (qK B.2.1 ins)) i 1).map fun x=>ii x) 3)::(6,.row 1 N.length ((dY tk due1 (ylS S (qK B.2.1 ins)) i 2).map fun x=>ii x) 3)::(7,.row 1 N.length ((dY tk due1 (ylS S (qK B.2.1 ins)) i 3).map fun x=>ii x) 3)::(8,.row 1 N.length ((dY tk due1 (ylS S (qK B.2.1 ins)) i 4).map fun x=>ii x) 3)::(9,.row 1 N.length ((dY tk due1 (ylS S (qK B.2.1 ins)) i 5).map fun x=>ii x) 3)::(10,.row 1 N.length ((dY tk due1 (ylS S (qK B.2.1 ins)) i 6).map fun x=>ii x) 3)::(11,.row 1 N.length ((dY tk due1 (ylS S (qK B.2.1 ins)) i 7).map fun x=>ii x) 3)::(12,.row 1 N.length ((dY tk due1 (ylS S (qK B.2.1 ins)) i 8).map fun x=>ii x) 3)::(13,.row 1 N.length ((dY tk due1 (ylS S (qK B.2.1 ins)) i 9).map fun x=>ii x) 3)::(14,.row 1 N.length ((dY tk due1 (ylS S (qK B.2.1 ins)) i 10).map fun x=>ii x) 3)::(15,.row 1 N.length ((dY tk due1 (ylS S (qK B.2.1 ins)) i 11).map fun x=>ii x) 3)::(16,.row 1 N.length ((dY tk due1 (ylS S (qK B.2.1 ins)) i 12).map fun x=>ii x) 3)::(17,.row 1 N.length ((dY tk due1 (ylS S (qK B.2.1 ins)) i 13).map fun x=>ii x) 3)::(18,.row 1 N.length ((dY tk due1 (ylS S (qK B.2.1 ins)) i 14).map fun x=>ii x) 3)::(19,.row 1 N.length ((dY tk due1 (ylS S (qK B.2.1 ins)) i 15).map fun x=>ii x) 3)::(21,.rwin 1 ins.length (qD ins))::[]) 45 (by show _=SV.opq (shR id 21 45 (4+zE (tk+s.d)));rw[shR_lt (by rw[hk2];omega)];rfl) rfl ⟨⟨0,_,rfl,rfl,by rw[oren_fix (S:=(· < 21)) (fun q hq=>shR_lt hq) (o:=.cells (yE inp tk) 170) (jN _ _)],rfl⟩,trivial⟩ rfl rfl ?_
    rw[hk2]
    rw[←List.append_nil r]
   refine Run.s8 (hc w1 L1 (some (29,l)) (fun q hq=>by obtain rfl:=Option.some.inj hq;exact hl)) [6,7,10,11,12] [0,1,2,3,4,5,8,9] hr ⟨a6,a7,a10,a11,a12,trivial⟩ ⟨dis 0 (by decide) b0,dis 1 (by decide) b1,dis 2 (by decide) b2,hsr,dis 4 (by decide) c4,dis 5 (by decide) c5,dis 8 (by decide) c8,dis 9 (by decide) c9,trivial⟩ (by decide) rfl ?_
   rotate_left
   refine Run.s8 (hc w1 L1 (some (29,l)) (fun q hq=>by obtain rfl:=Option.some.inj hq;exact hl)) [6,7,9,10,11,12] [0,1,2,3,4,5,8] hr ⟨a6,a7,inr 9 (by decide) (by decide) c9,a10,a11,a12,trivial⟩ ⟨dis 0 (by decide) b0,dis 1 (by decide) b1,dis 2 (by decide) b2,hsr,dis 4 (by decide) c4,dis 5 (by decide) c5,dis 8 (by decide) c8,trivial⟩ (by decide) rfl ?_
   rotate_left
   refine Run.s8 (hc w1 L1 (some (29,l)) (fun q hq=>by obtain rfl:=Option.some.inj hq;exact hl)) [6,7,8,9,10,11,12] [0,1,2,3,4,5] hr ⟨a6,a7,inr 8 (by decide) (by decide) c8,inr 9 (by decide) (by decide) c9,a10,a11,a12,trivial⟩ ⟨dis 0 (by decide) b0,dis 1 (by decide) b1,dis 2 (by decide) b2,hsr,dis 4 (by decide) c4,dis 5 (by decide) c5,trivial⟩ (by decide) rfl ?_
   rotate_left
   refine Run.s8 (hc w1 L1 (some (29,l)) (fun q hq=>by obtain rfl:=Option.some.inj hq;exact hl)) [5,6,7,10,11,12] [0,1,2,3,4,8,9] hr ⟨inr 5 (by decide) (by decide) c5,a6,a7,a10,a11,a12,trivial⟩ ⟨dis 0 (by decide) b0,dis 1 (by decide) b1,dis 2 (by decide) b2,hsr,dis 4 (by decide) c4,dis 8 (by decide) c8,dis 9 (by decide) c9,trivial⟩ (by decide) rfl ?_
   rotate_left
   refine Run.s8 (hc w1 L1 (some (29,l)) (fun q hq=>by obtain rfl:=Option.some.inj hq;exact hl)) [5,6,7,9,10,11,12] [0,1,2,3,4,8] hr ⟨inr 5 (by decide) (by decide) c5,a6,a7,inr 9 (by decide) (by decide) c9,a10,a11,a12,trivial⟩ ⟨dis 0 (by decide) b0,dis 1 (by decide) b1,dis 2 (by decide) b2,hsr,dis 4 (by decide) c4,dis 8 (by decide) c8,trivial⟩ (by decide) rfl ?_
   rotate_left
   refine Run.s8 (hc w1 L1 (some (29,l)) (fun q hq=>by obtain rfl:=Option.some.inj hq;exact hl)) [5,6,7,8,9,10,11,12] [0,1,2,3,4] hr ⟨inr 5 (by decide) (by decide) c5,a6,a7,inr 8 (by decide) (by decide) c8,inr 9 (by decide) (by decide) c9,a10,a11,a12,trivial⟩ ⟨dis 0 (by decide) b0,dis 1 (by decide) b1,dis 2 (by decide) b2,hsr,dis 4 (by decide) c4,trivial⟩ (by decide) rfl ?_
   rotate_left
   refine Run.s8 (hc w1 L1 (some (29,l)) (fun q hq=>by obtain rfl:=Option.some.inj hq;exact hl)) [4,5,6,7,10,11,12] [0,1,2,3,8,9] hr ⟨inr 4 (by decide) (by decide) c4,inr 5 (by decide) (by decide) c5,a6,a7,a10,a11,a12,trivial⟩ ⟨dis 0 (by decide) b0,dis 1 (by decide) b1,dis 2 (by decide) b2,hsr,dis 8 (by decide) c8,dis 9 (by decide) c9,trivial⟩ (by decide) rfl ?_
   rotate_left
   refine Run.s8 (hc w1 L1 (some (29,l)) (fun q hq=>by obtain rfl:=Option.some.inj hq;exact hl)) [4,5,6,7,9,10,11,12] [0,1,2,3,8] hr ⟨inr 4 (by decide) (by decide) c4,inr 5 (by decide) (by decide) c5,a6,a7,inr 9 (by decide) (by decide) c9,a10,a11,a12,trivial⟩ ⟨dis 0 (by decide) b0,dis 1 (by decide) b1,dis 2 (by decide) b2,hsr,dis 8 (by decide) c8,trivial⟩ (by decide) rfl ?_
   rotate_left
   refine Run.s8 (hc w1 L1 (some (29,l)) (fun q hq=>by obtain rfl:=Option.some.inj hq;exact hl)) [4,5,6,7,8,9,10,11,12] [0,1,2,3] hr ⟨inr 4 (by decide) (by decide) c4,inr 5 (by decide) (by decide) c5,a6,a7,inr 8 (by decide) (by decide) c8,inr 9 (by decide) (by decide) c9,a10,a11,a12,trivial⟩ ⟨dis 0 (by decide) b0,dis 1 (by decide) b1,dis 2 (by decide) b2,hsr,trivial⟩ (by decide) rfl ?_
   rotate_left
   all_goals
    conv=>whnf
    rw[gM (t:=27) (xs:=((dY tk due1 (ylS S (qK B.2.1 ins)) i) k2).map fun x=>ii x) rfl rfl rfl rfl (by rcases lt16 hk2l with rfl|rfl|rfl|rfl|rfl|rfl|rfl|rfl|rfl|rfl|rfl|rfl|rfl|rfl|rfl|rfl<;>rfl) rfl]
    conv=>whnf
    refine⟨⟨by omega,by omega⟩,?_⟩
    conv=>whnf
    rw[xW (l:=((dY tk due1 (ylS S (qK B.2.1 ins)) i) k2).map fun x=>ii x) (c:=ii ((dY tk due1 (ylS S (qK B.2.1 ins)) i) k2)[s.to.toNat]) s.to.toNat rfl rfl (by rcases lt16 hk2l with rfl|rfl|rfl|rfl|rfl|rfl|rfl|rfl|rfl|rfl|rfl|rfl|rfl|rfl|rfl|rfl<;>rfl) rfl (by rw[j9,Nat.mul_one]) (by rw[List.getElem?_map,List.getElem?_eq_getElem htl];rfl)]
    conv=>whnf
    rw[gM (t:=27) (xs:=((dY tk due1 (ylS S (qK B.2.1 ins)) i) k2).map fun x=>ii x) rfl rfl rfl rfl (by rcases lt16 hk2l with rfl|rfl|rfl|rfl|rfl|rfl|rfl|rfl|rfl|rfl|rfl|rfl|rfl|rfl|rfl|rfl<;>rfl) rfl]
    conv=>whnf
    refine⟨⟨by omega,by omega⟩,?_⟩
    conv=>whnf
    rw[uJ (l:=((dY tk due1 (ylS S (qK B.2.1 ins)) i) k2).map fun x=>ii x) (v:=ii (W (((dY tk due1 (ylS S (qK B.2.1 ins)) i) k2)[s.to.toNat]+s.w))) s.to.toNat rfl rfl rfl (by rcases lt16 hk2l with rfl|rfl|rfl|rfl|rfl|rfl|rfl|rfl|rfl|rfl|rfl|rfl|rfl|rfl|rfl|rfl<;>rfl) rfl (by rw[j9,Nat.mul_one]) (by rw[List.length_map];exact htl) rfl rfl,hset]
    conv=>whnf
    refine⟨by kernel_rfl,?_⟩
    rw[hdn]
    rcases lt16 hk2l with rfl|rfl|rfl|rfl|rfl|rfl|rfl|rfl|rfl|rfl|rfl|rfl|rfl|rfl|rfl|rfl
    all_goals
     refine Run.W1 (hc w1 L1 (some (29,l)) (fun q hq=>by obtain rfl:=Option.some.inj hq;exact hl)) ?_
     conv=>whnf
     refine⟨fun ρ w' hW _=>⟨rfl,ρ,?_⟩⟩
     refine hW.less (r:=id) ⟨?_,fun _ _ _ _ h=>h,fun q hq=>⟨rfl,hlid q hq⟩⟩
     exact AllP.mem (by repeat first|exact trivial|refine⟨⟨rfl,by omega,Os.h _⟩,?_⟩|refine⟨⟨by rw[qC];rfl,by omega,fun p hp=>Nat.lt_of_lt_of_le (hcov1.1 p hp) (by decide)⟩,?_⟩|refine⟨⟨by rw[qC];rfl,by omega,Os.h _⟩,?_⟩|refine⟨⟨by rw[qC];rfl,by omega,⟨ltb rfl,trivial⟩⟩,?_⟩|refine⟨⟨by rw[qC];rfl,by omega,pnx hcov rfl⟩,?_⟩|refine⟨⟨by rw[qC];rfl,by omega,SV.s7 (by decide) (jN _ _)⟩,?_⟩)
  ·intro L' a d hwid hd hLp
   have hnB2:nB tk N st due=B:=by rw[hnB,hA];exact hB
   have hnD:nDue tk N S st due ins=dY tk due1 (ylS S (qK B.2.1 ins)) (ylV S (qK B.2.1 ins)).length:=by
    unfold nDue dY
    rw[hnB2,hk,hd1,List.take_of_length_le (by simp[ylV])]
   refine Run.W1 (hc w L' none (fun q hq=>by cases hq)) ?_
   conv=>whnf
   refine Run.retD (hc w L' none (fun q hq=>by cases hq)) rfl 28 d hd rfl (.inr ⟨_,rfl⟩) rfl ?_
   rw[←hRR,hnB2,hnD]
   refine SpecR.rS 24 (by decide) hwid hLB (by decide) hcov rfl rfl (show 22<23 by decide) ?_
   exact⟨⟨by rw[ofx (o:=.row 1 B.2.1.length (B.2.1.map fun x=>ii x) 3) (qB _ _)];rfl,by omega,Os.h _⟩,⟨by rw[oren_fix (S:=(· < 21)) (fun i hi=>x5 i (by omega)) (o:=.cells (yE inp (W (tk+1))) 170) (jN _ _)];rfl,by omega,SV.s7 (by decide) (jN _ _)⟩,⟨rfl,by omega,Os.h _⟩,⟨rfl,by omega,Os.h _⟩,⟨by rw[ofx (o:=.row 2 N.length (B.1.flatMap Ste.cells) 139) (qS _ _)];rfl,by omega,Os.h _⟩,⟨by rw[ofx (o:=.row 1 N.length ((dY tk due1 (ylS S (qK B.2.1 ins)) (ylV S (qK B.2.1 ins)).length 0).map fun x=>ii x) 3) (qB _ _)];rfl,by omega,Os.h _⟩,⟨by rw[ofx (o:=.row 1 N.length ((dY tk due1 (ylS S (qK B.2.1 ins)) (ylV S (qK B.2.1 ins)).length 1).map fun x=>ii x) 3) (qB _ _)];rfl,by omega,Os.h _⟩,⟨by rw[ofx (o:=.row 1 N.length ((dY tk due1 (ylS S (qK B.2.1 ins)) (ylV S (qK B.2.1 ins)).length 2).map fun x=>ii x) 3) (qB _ _)];rfl,by omega,Os.h _⟩,⟨by rw[ofx (o:=.row 1 N.length ((dY tk due1 (ylS S (qK B.2.1 ins)) (ylV S (qK B.2.1 ins)).length 3).map fun x=>ii x) 3) (qB _ _)];rfl,by omega,Os.h _⟩,⟨by rw[ofx (o:=.row 1 N.length ((dY tk due1 (ylS S (qK B.2.1 ins)) (ylV S (qK B.2.1 ins)).length 4).map fun x=>ii x) 3) (qB _ _)];rfl,by omega,Os.h _⟩,⟨by rw[ofx (o:=.row 1 N.length ((dY tk due1 (ylS S (qK B.2.1 ins)) (ylV S (qK B.2.1 ins)).length 5).map fun x=>ii x) 3) (qB _ _)];rfl,by omega,Os.h _⟩,⟨by rw[ofx (o:=.row 1 N.length ((dY tk due1 (ylS S (qK B.2.1 ins)) (ylV S (qK B.2.1 ins)).length 6).map fun x=>ii x) 3) (qB _ _)];rfl,by omega,Os.h _⟩,⟨by rw[ofx (o:=.row 1 N.length ((dY tk due1 (ylS S (qK B.2.1 ins)) (ylV S (qK B.2.1 ins)).length 7).map fun x=>ii x) 3) (qB _ _)];rfl,by omega,Os.h _⟩,⟨by rw[ofx (o:=.row 1 N.length ((dY tk due1 (ylS S (qK B.2.1 ins)) (ylV S (qK B.2.1 ins)).length 8).map fun x=>ii x) 3) (qB _ _)];rfl,by omega,Os.h _⟩,⟨by rw[ofx (o:=.row 1 N.length ((dY tk due1 (ylS S (qK B.2.1 ins)) (ylV S (qK B.2.1 ins)).length 9).map fun x=>ii x) 3) (qB _ _)];rfl,by omega,Os.h _⟩,⟨by rw[ofx (o:=.row 1 N.length ((dY tk due1 (ylS S (qK B.2.1 ins)) (ylV S (qK B.2.1 ins)).length 10).map fun x=>ii x) 3) (qB _ _)];rfl,by omega,Os.h _⟩,⟨by rw[ofx (o:=.row 1 N.length ((dY tk due1 (ylS S (qK B.2.1 ins)) (ylV S (qK B.2.1 ins)).length 11).map fun x=>ii x) 3) (qB _ _)];rfl,by omega,Os.h _⟩,⟨by rw[ofx (o:=.row 1 N.length ((dY tk due1 (ylS S (qK B.2.1 ins)) (ylV S (qK B.2.1 ins)).length 12).map fun x=>ii x) 3) (qB _ _)];rfl,by omega,Os.h _⟩,⟨by rw[ofx (o:=.row 1 N.length ((dY tk due1 (ylS S (qK B.2.1 ins)) (ylV S (qK B.2.1 ins)).length 13).map fun x=>ii x) 3) (qB _ _)];rfl,by omega,Os.h _⟩,⟨by rw[ofx (o:=.row 1 N.length ((dY tk due1 (ylS S (qK B.2.1 ins)) (ylV S (qK B.2.1 ins)).length 14).map fun x=>ii x) 3) (qB _ _)];rfl,by omega,Os.h _⟩,⟨by rw[ofx (o:=.row 1 N.length ((dY tk due1 (ylS S (qK B.2.1 ins)) (ylV S (qK B.2.1 ins)).length 15).map fun x=>ii x) 3) (qB _ _)];rfl,by omega,Os.h _⟩,trivial⟩
end Go.Proofs.Ytnnlpdgnlccbjaa
namespace Go.Sx
theorem WI.addSwin {w0 w w1:World}{ρ:Env}{M:List (Nat×SObj)}{n e b:Nat}{cn:Int→Nat}{f:Int→List Value}(hW:WI w0 [] ρ (look M) (· < n) w)(hE:Ext w w1)(hs:SwinAt w1 (fun x=>w.heap.size≤x∧x<w1.heap.size) b e cn f)(is:List Nat)(M':List (Nat×SObj))
  (hM' :∀x∈M',look M' x.1=some x.2∧look M x.1=some x.2∧(x.2.wnd=true∨x.1∈is)∧(x.2.wnd=true→x.1∉is)) :
  ∃L',(∀p∈L',p.1∈is∧p.1<n∧w0.heap.size≤p.2)∧WI w1 L' (ρ.bind n b) (look ((n,.swin e cn f)::M')) (· < n+1) w1∧Env.agree (· < n) ρ (ρ.bind n b):=by
 have hsub :∀i o,look M' i=some o→look M i=some o:=fun i o hi=>(hM' _ (qF hi)).2.1
 have hr:WI w0 [] ρ (look M') (· < n) w:=⟨fun i o hi=>hW.mem i o (hsub i o hi),fun i j oi oj hi hj=>hW.dist i j oi oj (hsub i oi hi) (hsub j oj hj),fun i o hi=>hW.new i o (hsub i o hi),hW.lid,hW.keep,hW.size,hW.os,hW.tape,hW.output⟩
 obtain⟨L',hL1,_,hWs⟩:=(hr.ext hE).enterN is (fun x hx=>⟨(hM' x hx).1,(hM' x hx).2.2⟩)
 have hlt :∀p∈L',p.1<n∧p.2<w.heap.size∧w0.heap.size≤p.2:=fun p hp=>by
  obtain⟨_,h2,o,h3,h4⟩:=hL1 p hp
  rw[h2]
  refine⟨(hr.mem _ _ h3).1,SObj.rE (hr.mem _ _ h3).2.2 h4,?_⟩
  rcases hr.new _ _ h3 h4 with⟨q,hq,_⟩|h
  ·cases hq
  ·exact h
 have hag:=Env.rU ρ b (S:=(· < n)) (i:=n) (Nat.lt_irrefl n)
 refine⟨L',fun p hp=>⟨(hL1 p hp).1,(hlt p hp).1,(hlt p hp).2.2⟩,?_,hag⟩
 have h:=hWs.addR hag (i:=n) (o:=.swin e cn f) trivial (fun _ _ h=>h) ⟨by simp[Env.bind],by
  have e1:(ρ.bind n b).s n=b:=by simp[Env.bind]
  rw[e1]
  exact hs.mono fun x hx=>⟨⟨hx.2,fun p hp=>by have:=(hlt p hp).2.1;omega⟩,rfl⟩⟩
 rw[qX]
 exact h.mono fun q hq=>by have hq:q<n∨q=n:=hq;show q<n+1;omega
theorem Run.rM {c:Cx}{T:List (Nat×SV)}{M:List (Nat×SObj)}{n:Nat}{D:List Deferred}{ops:Array Oper}{i:Nat}{r:List Nat}{k:List Item}{R:Ending→World→Prop}{o:Oper}{f:Operand}{args:Array Operand}{ts:Array TypeId}
  {fv:SV} {g:FuncId} {vs:List SV} {e:Nat} {cn:Int→Nat} {ff:Int→List Value} (hL:c.L=[]) (hcall :∀ ρ w,WI c.w0 [] ρ (look M) (· < n) w→Calls c.P g (SV.concs ρ vs).toArray w fun en w'=> ∃b,en = .returned (.map (some b))∧Ext w w'∧SwinAt w' (fun x=>w.heap.size≤x∧x<w'.heap.size) b e cn ff) (hg:zU c.P g)
  (ho:get ops.toList i=some o) (hop:o.op = .call { callee:=.value f,args:=args,argTypes:=ts }) (hw:zQ ops.toList (look T) o=some true) (hd:okD c.fn.ntmps o.dst=true)
  (hf:ev (look T) f=some fv) (hfv:zW fv=some (g,[])) (hvs:evs (look T) args.toList=some vs) (is:List Nat) (M':List (Nat×SObj)) (hM' :∀x∈M',look M' x.1=some x.2∧look M x.1=some x.2∧(x.2.wnd=true∨x.1∈is)∧(x.2.wnd=true→x.1∉is))
  (T':List (Nat×SV)) (hT' :∀x∈T',look T x.1=some x.2∧x.2.sc (· < n))
  (h :∀w1 L1,Ext c.w0 w1→(∀p∈L1,p.1∈is∧p.1<n∧c.w0.heap.size≤p.2)→Run { c with w0:=w1,L:=L1 } ⟨z5 T' o.dst (.mp n),(n,.swin e cn ff)::M',n+1,D,.inRegion ops r::k⟩ R):Run c ⟨T,M,n,D,.inRegion ops (i::r)::k⟩ R:=by
 refine Run.callW (vs:=vs) (caps:=[]) (fun _ w en w'=> ∃b,en = .returned (.map (some b))∧Ext w w'∧SwinAt w' (fun x=>w.heap.size≤x∧x<w'.heap.size) b e cn ff) (fun ρ w hW=>by rw[hL]at hW;rw[List.append_nil];exact hcall ρ w hW) hg ho hop hw hd hf hfv hvs (fun ρ w en w' hW ⟨b,he,hE,hs⟩=> ?_)
 rw[hL]at hW
 obtain⟨L1,hL1,hW1,hag⟩:=hW.addSwin hE hs is M' hM'
 refine⟨.mp n,T',ρ.bind n b,_,n+1,L1,?_,Nat.lt_succ_self n,fun x hx=>⟨x.2,(hT' x hx).1,(zY hag _ (hT' x hx).2).symm,SV.sc_mono (fun q (hq:q<n)=>Nat.lt_succ_of_lt hq) _ (hT' x hx).2⟩,hW1,h w' L1 (hW.toExt.trans hE) hL1⟩
 rw[he];simp[SV.conc,Env.bind]
theorem WI.joinW {w0 w w1:World}{L L1:List (Nat×Nat)}{ρ ρ1:Env}{M M1:List (Nat×SObj)}{n n1:Nat}(hW:WI w0 L ρ (look M) (· < n) w)(hE:Ext w w1)(hC:WI w1 L1 ρ1 (look M1) (· < n1) w1)(hL1 :∀p∈L1,w.heap.size≤p.2)(M2:List (Nat×SObj))
  (hM2 :∀x∈M2,(look M x.1=some x.2 ∧ ∀ ρ,¬x.2.occ ρ x.1) ∨ ∃i o,n+i=x.1∧look M1 i=some o∧x.2=o.ren (n+·)) :
  WI w1 (L1.map fun p=>(n+p.1,p.2)) (ρ.join 0 n ρ1) (look M2) (· < n+n1) w1∧Env.agree (· < n) ρ (ρ.join 0 n ρ1):=by
 have hj:=ρ.join_agree 0 n ρ1
 have hr:(ρ.join 0 n ρ1).ren (n+·)=ρ1:=by
  cases ρ1 with
  |mk s o h=>
   simp only[Env.ren,Env.join]
   congr 1<;>(funext i;rw[if_neg (by omega)];congr 1;omega)
 have hs :∀i,(ρ.join 0 n ρ1).s (n+i)=ρ1.s i:=fun i=>congrFun (congrArg Env.s hr) i
 have hws:=hW.size
 have hes:=hE.size
 have kept :∀i o,look M i=some o→(∀ ρ,¬o.occ ρ i)→i<n+n1∧o.sc (· < n+n1)∧o.holds w1 (L1.map fun p=>(n+p.1,p.2)) (ρ.join 0 n ρ1) i w1:=by
  intro i o hi hno
  obtain⟨g1,g2,g3⟩:=hW.mem i o hi
  have g1':i<n:=g1
  refine⟨by omega,SObj.sc_mono (fun j (hj:j<n)=>by show j<n+n1;omega) g2,?_⟩
  have h':=SObj.rG (w':=w1) hj g1 g2 (fun ho=>absurd ho (hno ρ)) g3
  have hb :∀b,b<w0.heap.size→(∀p∈L,p.2≠b)→b<w1.heap.size∧(∀p∈L1.map (fun p=>(n+p.1,p.2)),p.2≠b)∧w1.heap[b]? = w0.heap[b]? :=fun b h1 h2=>
   ⟨by omega,fun p hp he=>by
    obtain⟨q,hq,rfl⟩:=List.mem_map.1 hp
    have:=hL1 q hq
    simp only at he
    omega,(hE.keep b (by omega)).trans (hW.keep b h1 h2)⟩
  cases o with
  |cells cs t=>exact absurd trivial (hno ρ)
  |obj o=>exact absurd trivial (hno ρ)
  |mid pre post cs t=>exact absurd trivial (hno ρ)
  |row e m xs t=>exact absurd (by simp[SObj.occ]) (hno ⟨fun _=>0,fun _=>0,fun _=>(some ⟨0,0,none⟩,0,0)⟩)
  |kmap pk nn l=>exact absurd rfl (hno ⟨fun _=>0,fun _=>0,fun _=>(none,0,0)⟩)
  |pin l=>exact h'
  |win vs=>
   obtain⟨k1,k2,k3⟩:=h'
   obtain⟨b1,b2,b3⟩:=hb _ k1 k2
   exact⟨b1,b2,fun j x hj=>by rw[World.cell?_of_block b3];exact k3 j x hj⟩
  |rwin e m vs=>
   obtain⟨k0,k00,k01,kk⟩:=h'
   refine⟨k0,k00,k01,kk.imp id fun⟨k,k1,k2,k3⟩=> ?_⟩
   obtain⟨b1,b2,b3⟩:=hb _ k1 k2
   exact⟨k,b1,b2,fun j x hj=>by rw[World.cell?_of_block b3];exact k3 j x hj⟩
  |kwin pk l=>
   obtain⟨k0,kk⟩:=h'
   refine⟨k0,kk.imp (fun⟨k,k1,k2,k3⟩=> ?_) id⟩
   obtain⟨b1,b2,b3⟩:=hb _ k1 k2
   exact⟨k,b1,b2,b3.trans k3⟩
  |swin e m f=>
   exact⟨h'.1,h'.2.mono fun b hbb=>by
    obtain⟨b1,b2,b3⟩:=hb _ hbb.1 hbb.2
    exact⟨⟨b1,b2⟩,b3⟩⟩
 have lift :∀i (o:SObj),o.holds w1 L1 ρ1 i w1→o.holds w1 (L1.map fun p=>(n+p.1,p.2)) ρ1 i w1:=by
  intro i o h
  have hp :∀b,(∀p∈L1,p.2≠b) → ∀p∈L1.map (fun p=>(n+p.1,p.2)),p.2≠b:=fun b hb p hp=>by
   obtain⟨q,hq,rfl⟩:=List.mem_map.1 hp
   exact hb q hq
  cases o with
  |win vs=>exact⟨h.1,hp _ h.2.1,h.2.2⟩
  |rwin e m vs=>exact⟨h.1,h.2.1,h.2.2.1,h.2.2.2.imp id fun⟨k,k1,k2,k3⟩=>⟨k,k1,hp _ k2,k3⟩⟩
  |kwin pk l=>exact⟨h.1,h.2.imp (fun⟨k,k1,k2,k3⟩=>⟨k,k1,hp _ k2,k3⟩) id⟩
  |swin e m f=>exact⟨h.1,h.2.mono fun b hb=>⟨⟨hb.1,hp b hb.2⟩,rfl⟩⟩
  |_=>exact h
 have theirs :∀i o,look M1 i=some o→n+i<n+n1∧(o.ren (n+·)).sc (· < n+n1)∧(o.ren (n+·)).holds w1 (L1.map fun p=>(n+p.1,p.2)) (ρ.join 0 n ρ1) (n+i) w1:=by
  intro i o hi
  obtain⟨g1,g2,g3⟩:=hC.mem i o hi
  have g1':i<n1:=g1
  refine⟨by omega,SObj.sc_ren (fun j (hj:j<n1)=>by show n+j<n+n1;omega) g2,?_⟩
  rw[holds_ren (r:=(n+·)),hr]
  exact lift i o g3
 have theirB :∀(i:Nat) (o:SObj),(o.ren (n+·)).occ (ρ.join 0 n ρ1) (n+i)→o.occ ρ1 i:=fun i o ho=>by
  have:=(occ_ren (ρ:=ρ.join 0 n ρ1) (r:=(n+·)) (i:=i) (o:=o)).1 ho
  rwa [hr]at this
 refine⟨⟨fun i o hi=> ?_,fun i j oi oj hi hj' hne ho ho'=> ?_,fun i o hi ho=> ?_,fun p hp=> ?_,fun _ _ _=>rfl,Nat.le_refl _,rfl,rfl,rfl⟩,hj⟩
 ·rcases hM2 _ (qF hi)with⟨h1,h2⟩|⟨i',o',h1,h2,h3⟩
  ·exact kept i o h1 h2
  ·simp only at h1 h3
   subst h1 h3
   exact theirs i' o' h2
 ·rcases hM2 _ (qF hi)with⟨_,a2⟩|⟨i',oi',a1,a2,a3⟩
  ·exact absurd ho (a2 _)
  ·rcases hM2 _ (qF hj')with⟨_,b2⟩|⟨j',oj',b1,b2,b3⟩
   ·exact absurd ho' (b2 _)
   ·simp only at a1 a3 b1 b3
    subst a1 a3 b1 b3
    rw[hs,hs]
    exact hC.dist i' j' oi' oj' a2 b2 (fun e=>hne (by rw[e])) (theirB i' oi' ho) (theirB j' oj' ho')
 ·rcases hM2 _ (qF hi)with⟨_,a2⟩|⟨i',oi',a1,a2,a3⟩
  ·exact absurd ho (a2 _)
  ·simp only at a1 a3
   subst a1 a3
   rw[hs]
   rcases hC.new i' oi' a2 (theirB i' oi' ho)with⟨p,hp,hpe⟩|h
   ·exact .inl ⟨(n+p.1,p.2),List.mem_map.2 ⟨p,hp,rfl⟩,hpe⟩
   ·exact .inr h
 ·obtain⟨q,hq,rfl⟩:=List.mem_map.1 hp
  obtain⟨h1,h2⟩:=hC.lid q hq
  have h1':q.1<n1:=h1
  exact⟨by show n+q.1<n+n1;omega,by rw[hs];exact h2⟩
theorem WI.back {w0 w1 w':World}{L1:List (Nat×Nat)}{ρ:Env}{M:List (Nat×SObj)}{n:Nat}(hW:WI w1 L1 ρ (look M) (· < n) w')(hE:Ext w0 w1)(hL1 :∀p∈L1,w0.heap.size≤p.2)(M1:List (Nat×SObj))(hM1 :∀x∈M1,look M x.1=some x.2∧x.2.wnd=false):WI w0 [] ρ (look M1) (· < n) w':=by
 have hs:=hE.size
 refine⟨fun i o hi=> ?_,fun i j oi oj hi hj=>hW.dist i j oi oj (hM1 _ (qF hi)).1 (hM1 _ (qF hj)).1,fun i o hi ho=> ?_,fun p hp=>(by cases hp),fun k hk _=> ?_,Nat.le_trans hs hW.size,hW.os.trans hE.os,hW.tape.trans hE.tape,hW.output.trans hE.output⟩
 ·obtain⟨h1,h2⟩:=hM1 _ (qF hi)
  obtain⟨g1,g2,g3⟩:=hW.mem i o h1
  refine⟨g1,g2,?_⟩
  cases o<;>first
   |exact g3
   |cases h2
 ·right
  rcases hW.new i o (hM1 _ (qF hi)).1 ho with⟨p,hp,he⟩|h
  ·rw[←he];exact hL1 p hp
  ·omega
 ·rw[hW.keep k (by omega) (fun p hp he=>by have:=hL1 p hp;omega)]
  exact hE.keep k hk
theorem WI.backExt {w0 w1 w':World}{L1:List (Nat×Nat)}{ρ:Env}{M:Mem}{S:Nat→Prop}(hW:WI w1 L1 ρ M S w')(hE:Ext w0 w1)(hL1 :∀p∈L1,w0.heap.size≤p.2):Ext w0 w':=
 ⟨fun k hk=>by rw[hW.keep k (Nat.lt_of_lt_of_le hk hE.size) (fun p hp he=>by have:=hL1 p hp;omega)];exact hE.keep k hk,Nat.le_trans hE.size hW.size,hW.os.trans hE.os,hW.tape.trans hE.tape,hW.output.trans hE.output⟩
end Go.Sx
namespace Go.Proofs.Ytnnlpdgnlccbjaa
open Go.Sx
set_option maxRecDepth 100000
set_option maxHeartbeats 16000000
theorem rq2 (a b i:Nat):rq [(a,b),(b,a)] i=if a=i then b else if b=i then a else i:=by
 unfold rq
 rw[qP]
 by_cases h1:a=i
 ·rw[if_pos h1,if_pos h1]
 ·rw[if_neg h1,if_neg h1,qP]
  by_cases h2:b=i
  ·rw[if_pos h2,if_pos h2]
  ·rw[if_neg h2,if_neg h2];rfl
theorem rq_swap {a b:Nat}(h:a≠b)(i:Nat):rq [(a,b),(b,a)] (rq [(a,b),(b,a)] i)=i:=by
 rw[rq2,rq2]
 by_cases h1:a=i
 ·subst h1;rw[if_pos rfl,if_neg h,if_pos rfl]
 ·rw[if_neg h1]
  by_cases h2:b=i
  ·subst h2;rw[if_pos rfl,if_pos rfl]
  ·rw[if_neg h2,if_neg h1,if_neg h2]
theorem joinE {G:Prop}{P:World→List (Nat×Nat)→Prop}{c:World→List (Nat×Nat)→Cx}{R:Ending→World→Prop}{q:List Item}(T:List (Nat×SV))(M:List (Nat×SObj))(n:Nat)(h1:(∀w1 L1,P w1 L1→Run (c w1 L1) ⟨T,M,n,[],q⟩ R)→G)(h2 :∀w1 L1,P w1 L1→Run (c w1 L1) ⟨T,M,n,[],q⟩ R):G:=h1 h2
def ringC (d:Nat):List SV:=(List.range 16).map fun j=>if j<d then .opq (30+j)else .v (.slice none 0 0)
def ringM (N d:Nat):List (Nat×SObj):=(List.range d).map fun j=>(30+j,(.row 1 N (List.replicate N (ii 0)) 3:SObj))
theorem yX {d n:Nat}(hn:46≤n):SV.scs (· < n) (ringC d):=by
 rw[kS]
 intro a ha
 obtain⟨j,hj,rfl⟩:=List.mem_map.1 ha
 have:=List.mem_range.1 hj
 split
 ·show 30+j<n;omega
 ·trivial
theorem ringM_mem {N d:Nat}(hd:d≤16) :∀x∈ringM N d,x.1<46∧30≤x.1 ∧ ∀S,x.2.sc S:=by
 intro x hx
 obtain⟨j,hj,rfl⟩:=List.mem_map.1 hx
 have:=List.mem_range.1 hj
 exact⟨by show 30+j<46;omega,by show 30≤30+j;omega,fun S=>by show SV.scs S (List.replicate N (ii 0));rw[kS];intro a ha;rw[List.eq_of_mem_replicate ha];trivial⟩
def SimAt (w:World)(inp:Int)(N:List Prm)(S:List Syn)(e:Ending)(w':World):Prop:=
 ∃ ρ L',e = .returned ((SV.ptr 0 0).conc ρ)∧Ext w w'∧(∀p∈L',p.1<21∧w.heap.size≤p.2)∧WI w' L' ρ (Sx.look (nsimM inp 0 N S (List.replicate N.length jC) fun _=>List.replicate N.length 0)) (· < 21) w'
theorem nstart_run (vN vS:Value)(n:Net)(w:World)(hn:xU w vN vS n)(hS:n.S.length≤8192)(hN:n.N.length≤1024) :
  Calls Try.prog 59 #[netV vN vS n] w (SimAt w n.inp n.N n.S):=by
 obtain⟨N,inp,S⟩:=n
 obtain⟨hn1,hn2⟩:=hn
 simp only at hn1 hn2 hS hN ⊢
 have hpf:PF.oks Try.prog [(64+1000,FCl 8 60)]:=⟨wH,trivial⟩
 have hc :∀w0 L,Cx.ok ⟨Try.prog,tab,[(64+1000,FCl 8 60)],59,Try.f59,[],w0,L,none⟩:=fun w0 L=>⟨qI,hpf,Try.func59,mixed,fun _ h=>by cases h⟩
 have hrows:AllP (fun x:Value×Nat×Nat×List Value=>RowsAt w x.1 x.2.1 x.2.2.1 x.2.2.2) [(vN,8,N.length,N.flatMap Prm.vals),(vS,4,S.length,S.flatMap Syn.vals)]:=⟨hn1,hn2,trivial⟩
 refine Run.rH Try.func59 rfl _ hrows [.agg [.opq 0,ii inp,.opq 1]] [netV vN vS ⟨N,inp,S⟩] [(0,.rwin 8 N.length (N.flatMap Prm.vals)),(1,.rwin 4 S.length (S.flatMap Syn.vals))] 2 rfl rfl
  (by show [Value.agg [(SV.opq 0).conc _,.int .i64 inp,(SV.opq 1).conc _].toArray]=_;rw[qM hrows (k:=0) rfl,qM hrows (k:=1) rfl];rfl) (by simp[SV.scs,SV.sc]) rfl (Run.s0 (hc w []) 1000 _ ?_)
 conv=>whnf
 rw[xT (F:=FCl 8 60) rfl rfl rfl rfl rfl (uC rfl (by omega) (one_prm _))]
 conv=>whnf
 refine Run.s6 (T':=[(1,.ptr 2 0)]) (M':=[(2,.cells [.opq 3,ii inp,.opq 1] 25),(3,.row 8 N.length ((N.flatMap Prm.vals).map .v) 60),(1,.rwin 4 S.length (S.flatMap Syn.vals)),(0,.rwin 8 N.length (N.flatMap Prm.vals))]) 4 ⟨⟨rfl,ltb rfl⟩,trivial⟩ ⟨⟨rfl,by omega,(show 3<4 by decide),trivial,ltb rfl,trivial⟩,⟨rfl,by omega,Os.h _⟩,⟨rfl,by omega,Os.h _⟩,⟨rfl,by omega,Os.h _⟩,trivial⟩ (fun p hp=>by cases hp) ?_
 apply joinE (P:=fun w1 L1=>Ext w w1 ∧ ∀p∈L1,(p.1=2∨p.1=3∨p.1=10)∧w.heap.size≤p.2) (c:=fun w1 L1=>⟨Try.prog,tab,[(64+1000,FCl 8 60)],59,Try.f59,[],w1,L1,none⟩) (R:=SimAt w inp N S) [(1,.ptr 2 0),(3,.ptr 12 0)] ((12,.cells ([.opq 3,ii inp,.opq 1,.mp 6,ii 0,.opq 10]++ringC 0) 170)::(10,.row 2 N.length ((List.replicate N.length jC).flatMap Ste.cells) 139)::(6,swS S)::(2,.cells [.opq 3,ii inp,.opq 1] 25)::(3,.row 8 N.length ((N.flatMap Prm.vals).map .v) 60)::ringM N.length 0) 64
 ·intro cont
  refine Run.drawE (hc w []) rfl fun lo hlo=> ?_
  obtain⟨p,r,rfl,hp,hr,hex,hsp,hsr,hbef,haft,hcl⟩:=hlo.split 2 (by decide)
  have b1:1∈p:=hbef 1 (jS rfl)
  obtain⟨a7,n7⟩:=haft 7 (jS rfl) (by decide)
  obtain⟨a8,n8⟩:=haft 8 (jS rfl) (by decide)
  obtain⟨a9,n9⟩:=haft 9 (jS rfl) (by decide)
  have dis :∀i,i<10→i∈p→i∉r:=fun i hi hip=>by
   by_cases e:i=2
   ·subst e;exact hsr
   ·rcases hex i hi e with h|h
    ·exact h.2
    ·exact absurd hip h.1
  have inr :∀i,i<10→i≠2→i∉p→i∈r:=fun i hi e hip=>by
   rcases hex i hi e with h|h
   ·exact absurd h.1 hip
   ·exact h.2
  have e34:4∈p→3∈p:=fun h=>hcl 3 4 (jS rfl) h
  have e45:5∈p→4∈p:=fun h=>hcl 4 5 (jS rfl) h
  have e56:6∈p→5∈p:=fun h=>hcl 5 6 (jS rfl) h
  have five:(3∈p∧4∈p∧5∈p∧6∈p)∨(3∈p∧4∈p∧5∈p∧6∉p)∨(3∈p∧4∈p∧5∉p∧6∉p)∨(3∈p∧4∉p∧5∉p∧6∉p)∨(3∉p∧4∉p∧5∉p∧6∉p):=by
   by_cases c3:3∈p
   ·by_cases c4:4∈p
    ·by_cases c5:5∈p
     ·by_cases c6:6∈p
      ·exact .inl ⟨c3,c4,c5,c6⟩
      ·exact .inr (.inl ⟨c3,c4,c5,c6⟩)
     ·exact .inr (.inr (.inl ⟨c3,c4,c5,fun h=>c5 (e56 h)⟩))
    ·exact .inr (.inr (.inr (.inl ⟨c3,c4,fun h=>c4 (e45 h),fun h=>c4 (e45 (e56 h))⟩)))
   ·exact .inr (.inr (.inr (.inr ⟨c3,fun h=>c3 (e34 h),fun h=>c3 (e34 (e45 h)),fun h=>c3 (e34 (e45 (e56 h)))⟩)))
  have wcall :∀{M:List (Nat×SObj)} {n:Nat} (ρ:Env) (w1:World),Sx.look M 3=some (.row 8 N.length ((N.flatMap Prm.vals).map .v) 60)→Sx.look M 1=some (.rwin 4 S.length (S.flatMap Syn.vals))→WI w [] ρ (Sx.look M) (· < n) w1→Calls Try.prog 92 (SV.concs ρ [.agg [.opq 3,ii inp,.opq 1]]).toArray w1 fun en w'=> ∃b,en = .returned (.map (some b))∧Ext w1 w'∧SwinAt w' (fun x=>w1.heap.size≤x∧x<w'.heap.size) b 4 (fun k=>(zH S k).length) fun k=>(zH S k).flatMap Syn.vals:=fun ρ w1 m3 m1 hW=>by
   have r3:=hW.rowsAtR m3 (by decide)
   rw[zN]at r3
   exact wires_run ((SV.opq 3).conc ρ) ((SV.opq 1).conc ρ) ⟨N,inp,S⟩ w1 ⟨r3,hW.rowsAt m1⟩ hS
  rcases five with⟨c3,c4,c5,c6⟩|⟨c3,c4,c5,c6⟩|⟨c3,c4,c5,c6⟩|⟨c3,c4,c5,c6⟩|⟨c3,c4,c5,c6⟩<;>by_cases c0:0∈p
  ·refine Run.s8 (hc w []) [0,1,3,4,5,6] [2,7,8,9] hp ⟨c0,b1,c3,c4,c5,c6,trivial⟩ ⟨hsp,n7,n8,n9,trivial⟩ (by decide) rfl ?_
   conv=>whnf
   rw[yA (m:=N.length) rfl rfl rfl rfl rfl rfl (by omega) (by omega)]
   conv=>whnf
   refine⟨by kernel_rfl,?_⟩
   refine Run.rM (g:=92) (vs:=[.agg [.opq 3,ii inp,.opq 1]]) rfl (fun ρ w1 hW=>wcall ρ w1 rfl rfl hW) (ent _ _ Try.func92 (by kernel_rfl) rfl) rfl rfl rfl rfl rfl rfl rfl [2,3,10] [(10,.row 2 N.length ((List.replicate N.length ()).flatMap fun _=>[SV.v (.int .i64 0),SV.v (.int .i64 0)]) 139),(2,.cells [.opq 3,ii inp,.opq 1] 25),(3,.row 8 N.length ((N.flatMap Prm.vals).map .v) 60)] (AllP.mem ⟨⟨rfl,rfl,.inr (by simp),fun h=>by cases h⟩,⟨rfl,rfl,.inr (by simp),fun h=>by cases h⟩,⟨rfl,rfl,.inr (by simp),fun h=>by cases h⟩,trivial⟩) [(1,.ptr 2 0),(9,.agg [.opq 3,ii inp,.opq 1]),(15,.opq 10)] (AllP.mem ⟨⟨rfl,ltb rfl⟩,⟨rfl,⟨(show 3<14 by decide),trivial,ltb rfl,trivial⟩⟩,⟨rfl,ltb rfl⟩,trivial⟩) fun w1 L1 hE1 hL1=> ?_
   rw[←List.append_nil r]
   refine Run.s8 (hc w1 L1) [7,8,9] [0,1,2,3,4,5,6] hr ⟨a7,a8,a9,trivial⟩ ⟨dis 0 (by decide) c0,dis 1 (by decide) b1,hsr,dis 3 (by decide) c3,dis 4 (by decide) c4,dis 5 (by decide) c5,dis 6 (by decide) c6,trivial⟩ (by decide) rfl ?_
   conv=>whnf
   refine⟨by kernel_rfl,?_⟩
   refine Run.s0 (hc w1 L1) 4 _ ?_
   conv=>whnf
   have hLm :∀p∈L1,(p.1=2∨p.1=3∨p.1=10)∧w.heap.size≤p.2:=fun p hp=>⟨by have:=(hL1 p hp).1;simp at this;omega,(hL1 p hp).2.2⟩
   refine Run.rK (cont w1 L1 ⟨hE1,hLm⟩) (rq [(12,23),(23,12),(6,14),(14,6)]) ?_ ?_ ?_ ?_
   ·intro i hi j hj hne he
    have inv :∀i,i<64→rq [(12,23),(23,12),(6,14),(14,6)] (rq [(12,23),(23,12),(6,14),(14,6)] i)=i:=by decide
    exact hne (by rw[←inv i hi,he,inv j hj])
   ·exact⟨⟨rfl,ltb rfl⟩,⟨rfl,ltb rfl⟩,trivial⟩
   ·exact⟨⟨rfl,by omega,(show 3<64 by decide),trivial,(show 1<64 by decide),(show 6<64 by decide),trivial,(show 10<64 by decide),yX (by decide)⟩,⟨congrArg some (by show SObj.row 2 N.length _ 139=SObj.row 2 N.length (SV.rens _ _) 139;rw[x6];exact congrArg (fun x=>SObj.row 2 N.length x 139) (qY (S:=fun _=>False) (fun i hi=>hi.elim) _ (qS _ _)).symm),by omega,Os.h _⟩,⟨rfl,by omega,Os.h _⟩,⟨rfl,by omega,(show 3<64 by decide),trivial,ltb rfl,trivial⟩,⟨congrArg some (ofx (o:=.row 8 N.length ((N.flatMap Prm.vals).map .v) 60) (qL _ _)).symm,by omega,Os.h _⟩,trivial⟩
   ·intro p hp
    have hm:=(hL1 p hp).1
    simp only[List.mem_cons,List.not_mem_nil,or_false]at hm
    rcases hm with e|e|e<;>rw[e]<;>exact⟨by decide,by decide⟩
  ·refine Run.s8 (hc w []) [1,3,4,5,6] [0,2,7,8,9] hp ⟨b1,c3,c4,c5,c6,trivial⟩ ⟨c0,hsp,n7,n8,n9,trivial⟩ (by decide) rfl ?_
   conv=>whnf
   rw[yA (m:=N.length) rfl rfl rfl rfl rfl rfl (by omega) (by omega)]
   conv=>whnf
   refine⟨by kernel_rfl,?_⟩
   refine Run.rM (g:=92) (vs:=[.agg [.opq 3,ii inp,.opq 1]]) rfl (fun ρ w1 hW=>wcall ρ w1 rfl rfl hW) (ent _ _ Try.func92 (by kernel_rfl) rfl) rfl rfl rfl rfl rfl rfl rfl [2,3,10] [(10,.row 2 N.length ((List.replicate N.length ()).flatMap fun _=>[SV.v (.int .i64 0),SV.v (.int .i64 0)]) 139),(2,.cells [.opq 3,ii inp,.opq 1] 25),(3,.row 8 N.length ((N.flatMap Prm.vals).map .v) 60)] (AllP.mem ⟨⟨rfl,rfl,.inr (by simp),fun h=>by cases h⟩,⟨rfl,rfl,.inr (by simp),fun h=>by cases h⟩,⟨rfl,rfl,.inr (by simp),fun h=>by cases h⟩,trivial⟩) [(1,.ptr 2 0),(15,.opq 10)] (AllP.mem ⟨⟨rfl,ltb rfl⟩,⟨rfl,ltb rfl⟩,trivial⟩) fun w1 L1 hE1 hL1=> ?_
   rw[←List.append_nil r]
   refine Run.s8 (hc w1 L1) [0,7,8,9] [1,2,3,4,5,6] hr ⟨inr 0 (by decide) (by decide) c0,a7,a8,a9,trivial⟩ ⟨dis 1 (by decide) b1,hsr,dis 3 (by decide) c3,dis 4 (by decide) c4,dis 5 (by decide) c5,dis 6 (by decide) c6,trivial⟩ (by decide) rfl ?_
   conv=>whnf
   refine⟨by kernel_rfl,?_⟩
   refine Run.s0 (hc w1 L1) 4 _ ?_
   conv=>whnf
   have hLm :∀p∈L1,(p.1=2∨p.1=3∨p.1=10)∧w.heap.size≤p.2:=fun p hp=>⟨by have:=(hL1 p hp).1;simp at this;omega,(hL1 p hp).2.2⟩
   refine Run.rK (cont w1 L1 ⟨hE1,hLm⟩) (rq [(12,23),(23,12),(6,14),(14,6)]) ?_ ?_ ?_ ?_
   ·intro i hi j hj hne he
    have inv :∀i,i<64→rq [(12,23),(23,12),(6,14),(14,6)] (rq [(12,23),(23,12),(6,14),(14,6)] i)=i:=by decide
    exact hne (by rw[←inv i hi,he,inv j hj])
   ·exact⟨⟨rfl,ltb rfl⟩,⟨rfl,ltb rfl⟩,trivial⟩
   ·exact⟨⟨rfl,by omega,(show 3<64 by decide),trivial,(show 1<64 by decide),(show 6<64 by decide),trivial,(show 10<64 by decide),yX (by decide)⟩,⟨congrArg some (by show SObj.row 2 N.length _ 139=SObj.row 2 N.length (SV.rens _ _) 139;rw[x6];exact congrArg (fun x=>SObj.row 2 N.length x 139) (qY (S:=fun _=>False) (fun i hi=>hi.elim) _ (qS _ _)).symm),by omega,Os.h _⟩,⟨rfl,by omega,Os.h _⟩,⟨rfl,by omega,(show 3<64 by decide),trivial,ltb rfl,trivial⟩,⟨congrArg some (ofx (o:=.row 8 N.length ((N.flatMap Prm.vals).map .v) 60) (qL _ _)).symm,by omega,Os.h _⟩,trivial⟩
   ·intro p hp
    have hm:=(hL1 p hp).1
    simp only[List.mem_cons,List.not_mem_nil,or_false]at hm
    rcases hm with e|e|e<;>rw[e]<;>exact⟨by decide,by decide⟩
  ·refine Run.s8 (hc w []) [0,1,3,4,5] [2,6,7,8,9] hp ⟨c0,b1,c3,c4,c5,trivial⟩ ⟨hsp,c6,n7,n8,n9,trivial⟩ (by decide) rfl ?_
   conv=>whnf
   refine⟨by kernel_rfl,?_⟩
   refine Run.rM (g:=92) (vs:=[.agg [.opq 3,ii inp,.opq 1]]) rfl (fun ρ w1 hW=>wcall ρ w1 rfl rfl hW) (ent _ _ Try.func92 (by kernel_rfl) rfl) rfl rfl rfl rfl rfl rfl rfl [2,3] [(2,.cells [.opq 3,ii inp,.opq 1] 25),(3,.row 8 N.length ((N.flatMap Prm.vals).map .v) 60)] (AllP.mem ⟨⟨rfl,rfl,.inr (by simp),fun h=>by cases h⟩,⟨rfl,rfl,.inr (by simp),fun h=>by cases h⟩,trivial⟩) [(1,.ptr 2 0),(9,.agg [.opq 3,ii inp,.opq 1]),(14,ii (N.length:Int))] (AllP.mem ⟨⟨rfl,ltb rfl⟩,⟨rfl,⟨(show 3<14 by decide),trivial,ltb rfl,trivial⟩⟩,⟨rfl,trivial⟩,trivial⟩) fun w1 L1 hE1 hL1=> ?_
   rw[←List.append_nil r]
   refine Run.s8 (hc w1 L1) [6,7,8,9] [0,1,2,3,4,5] hr ⟨inr 6 (by decide) (by decide) c6,a7,a8,a9,trivial⟩ ⟨dis 0 (by decide) c0,dis 1 (by decide) b1,hsr,dis 3 (by decide) c3,dis 4 (by decide) c4,dis 5 (by decide) c5,trivial⟩ (by decide) rfl ?_
   conv=>whnf
   rw[yA (m:=N.length) rfl rfl rfl rfl rfl rfl (by omega) (by omega)]
   conv=>whnf
   refine⟨by kernel_rfl,?_⟩
   refine Run.s0 (hc w1 L1) 4 _ ?_
   conv=>whnf
   have hLm :∀p∈L1,(p.1=2∨p.1=3∨p.1=10)∧w.heap.size≤p.2:=fun p hp=>⟨by have:=(hL1 p hp).1;simp at this;omega,(hL1 p hp).2.2⟩
   refine Run.rK (cont w1 L1 ⟨hE1,hLm⟩) (rq [(12,23),(23,12),(6,14),(14,6),(10,21),(21,10)]) ?_ ?_ ?_ ?_
   ·intro i hi j hj hne he
    have inv :∀i,i<64→rq [(12,23),(23,12),(6,14),(14,6),(10,21),(21,10)] (rq [(12,23),(23,12),(6,14),(14,6),(10,21),(21,10)] i)=i:=by decide
    exact hne (by rw[←inv i hi,he,inv j hj])
   ·exact⟨⟨rfl,ltb rfl⟩,⟨rfl,ltb rfl⟩,trivial⟩
   ·exact⟨⟨rfl,by omega,(show 3<64 by decide),trivial,(show 1<64 by decide),(show 6<64 by decide),trivial,(show 10<64 by decide),yX (by decide)⟩,⟨congrArg some (by show SObj.row 2 N.length _ 139=SObj.row 2 N.length (SV.rens _ _) 139;rw[x6];exact congrArg (fun x=>SObj.row 2 N.length x 139) (qY (S:=fun _=>False) (fun i hi=>hi.elim) _ (qS _ _)).symm),by omega,Os.h _⟩,⟨rfl,by omega,Os.h _⟩,⟨rfl,by omega,(show 3<64 by decide),trivial,ltb rfl,trivial⟩,⟨congrArg some (ofx (o:=.row 8 N.length ((N.flatMap Prm.vals).map .v) 60) (qL _ _)).symm,by omega,Os.h _⟩,trivial⟩
   ·intro p hp
    have hm:=(hL1 p hp).1
    simp only[List.mem_cons,List.not_mem_nil,or_false]at hm
    rcases hm with e|e<;>rw[e]<;>exact⟨by decide,by decide⟩
  ·refine Run.s8 (hc w []) [1,3,4,5] [0,2,6,7,8,9] hp ⟨b1,c3,c4,c5,trivial⟩ ⟨c0,hsp,c6,n7,n8,n9,trivial⟩ (by decide) rfl ?_
   conv=>whnf
   refine⟨by kernel_rfl,?_⟩
   refine Run.rM (g:=92) (vs:=[.agg [.opq 3,ii inp,.opq 1]]) rfl (fun ρ w1 hW=>wcall ρ w1 rfl rfl hW) (ent _ _ Try.func92 (by kernel_rfl) rfl) rfl rfl rfl rfl rfl rfl rfl [2,3] [(2,.cells [.opq 3,ii inp,.opq 1] 25),(3,.row 8 N.length ((N.flatMap Prm.vals).map .v) 60)] (AllP.mem ⟨⟨rfl,rfl,.inr (by simp),fun h=>by cases h⟩,⟨rfl,rfl,.inr (by simp),fun h=>by cases h⟩,trivial⟩) [(1,.ptr 2 0),(14,ii (N.length:Int))] (AllP.mem ⟨⟨rfl,ltb rfl⟩,⟨rfl,trivial⟩,trivial⟩) fun w1 L1 hE1 hL1=> ?_
   rw[←List.append_nil r]
   refine Run.s8 (hc w1 L1) [0,6,7,8,9] [1,2,3,4,5] hr ⟨inr 0 (by decide) (by decide) c0,inr 6 (by decide) (by decide) c6,a7,a8,a9,trivial⟩ ⟨dis 1 (by decide) b1,hsr,dis 3 (by decide) c3,dis 4 (by decide) c4,dis 5 (by decide) c5,trivial⟩ (by decide) rfl ?_
   conv=>whnf
   rw[yA (m:=N.length) rfl rfl rfl rfl rfl rfl (by omega) (by omega)]
   conv=>whnf
   refine⟨by kernel_rfl,?_⟩
   refine Run.s0 (hc w1 L1) 4 _ ?_
   conv=>whnf
   have hLm :∀p∈L1,(p.1=2∨p.1=3∨p.1=10)∧w.heap.size≤p.2:=fun p hp=>⟨by have:=(hL1 p hp).1;simp at this;omega,(hL1 p hp).2.2⟩
   refine Run.rK (cont w1 L1 ⟨hE1,hLm⟩) (rq [(12,23),(23,12),(6,14),(14,6),(10,21),(21,10)]) ?_ ?_ ?_ ?_
   ·intro i hi j hj hne he
    have inv :∀i,i<64→rq [(12,23),(23,12),(6,14),(14,6),(10,21),(21,10)] (rq [(12,23),(23,12),(6,14),(14,6),(10,21),(21,10)] i)=i:=by decide
    exact hne (by rw[←inv i hi,he,inv j hj])
   ·exact⟨⟨rfl,ltb rfl⟩,⟨rfl,ltb rfl⟩,trivial⟩
   ·exact⟨⟨rfl,by omega,(show 3<64 by decide),trivial,(show 1<64 by decide),(show 6<64 by decide),trivial,(show 10<64 by decide),yX (by decide)⟩,⟨congrArg some (by show SObj.row 2 N.length _ 139=SObj.row 2 N.length (SV.rens _ _) 139;rw[x6];exact congrArg (fun x=>SObj.row 2 N.length x 139) (qY (S:=fun _=>False) (fun i hi=>hi.elim) _ (qS _ _)).symm),by omega,Os.h _⟩,⟨rfl,by omega,Os.h _⟩,⟨rfl,by omega,(show 3<64 by decide),trivial,ltb rfl,trivial⟩,⟨congrArg some (ofx (o:=.row 8 N.length ((N.flatMap Prm.vals).map .v) 60) (qL _ _)).symm,by omega,Os.h _⟩,trivial⟩
   ·intro p hp
    have hm:=(hL1 p hp).1
    simp only[List.mem_cons,List.not_mem_nil,or_false]at hm
    rcases hm with e|e<;>rw[e]<;>exact⟨by decide,by decide⟩
  ·refine Run.s8 (hc w []) [0,1,3,4] [2,5,6,7,8,9] hp ⟨c0,b1,c3,c4,trivial⟩ ⟨hsp,c5,c6,n7,n8,n9,trivial⟩ (by decide) rfl ?_
   conv=>whnf
   refine⟨by kernel_rfl,?_⟩
   refine Run.rM (g:=92) (vs:=[.agg [.opq 3,ii inp,.opq 1]]) rfl (fun ρ w1 hW=>wcall ρ w1 rfl rfl hW) (ent _ _ Try.func92 (by kernel_rfl) rfl) rfl rfl rfl rfl rfl rfl rfl [2,3] [(2,.cells [.opq 3,ii inp,.opq 1] 25),(3,.row 8 N.length ((N.flatMap Prm.vals).map .v) 60)] (AllP.mem ⟨⟨rfl,rfl,.inr (by simp),fun h=>by cases h⟩,⟨rfl,rfl,.inr (by simp),fun h=>by cases h⟩,trivial⟩) [(1,.ptr 2 0),(9,.agg [.opq 3,ii inp,.opq 1]),(13,.opq 3)] (AllP.mem ⟨⟨rfl,ltb rfl⟩,⟨rfl,⟨(show 3<14 by decide),trivial,ltb rfl,trivial⟩⟩,⟨rfl,ltb rfl⟩,trivial⟩) fun w1 L1 hE1 hL1=> ?_
   rw[←List.append_nil r]
   refine Run.s8 (hc w1 L1) [5,6,7,8,9] [0,1,2,3,4] hr ⟨inr 5 (by decide) (by decide) c5,inr 6 (by decide) (by decide) c6,a7,a8,a9,trivial⟩ ⟨dis 0 (by decide) c0,dis 1 (by decide) b1,hsr,dis 3 (by decide) c3,dis 4 (by decide) c4,trivial⟩ (by decide) rfl ?_
   conv=>whnf
   rw[yA (m:=N.length) rfl rfl rfl rfl rfl rfl (by omega) (by omega)]
   conv=>whnf
   refine⟨by kernel_rfl,?_⟩
   refine Run.s0 (hc w1 L1) 4 _ ?_
   conv=>whnf
   have hLm :∀p∈L1,(p.1=2∨p.1=3∨p.1=10)∧w.heap.size≤p.2:=fun p hp=>⟨by have:=(hL1 p hp).1;simp at this;omega,(hL1 p hp).2.2⟩
   refine Run.rK (cont w1 L1 ⟨hE1,hLm⟩) (rq [(12,23),(23,12),(6,14),(14,6),(10,21),(21,10)]) ?_ ?_ ?_ ?_
   ·intro i hi j hj hne he
    have inv :∀i,i<64→rq [(12,23),(23,12),(6,14),(14,6),(10,21),(21,10)] (rq [(12,23),(23,12),(6,14),(14,6),(10,21),(21,10)] i)=i:=by decide
    exact hne (by rw[←inv i hi,he,inv j hj])
   ·exact⟨⟨rfl,ltb rfl⟩,⟨rfl,ltb rfl⟩,trivial⟩
   ·exact⟨⟨rfl,by omega,(show 3<64 by decide),trivial,(show 1<64 by decide),(show 6<64 by decide),trivial,(show 10<64 by decide),yX (by decide)⟩,⟨congrArg some (by show SObj.row 2 N.length _ 139=SObj.row 2 N.length (SV.rens _ _) 139;rw[x6];exact congrArg (fun x=>SObj.row 2 N.length x 139) (qY (S:=fun _=>False) (fun i hi=>hi.elim) _ (qS _ _)).symm),by omega,Os.h _⟩,⟨rfl,by omega,Os.h _⟩,⟨rfl,by omega,(show 3<64 by decide),trivial,ltb rfl,trivial⟩,⟨congrArg some (ofx (o:=.row 8 N.length ((N.flatMap Prm.vals).map .v) 60) (qL _ _)).symm,by omega,Os.h _⟩,trivial⟩
   ·intro p hp
    have hm:=(hL1 p hp).1
    simp only[List.mem_cons,List.not_mem_nil,or_false]at hm
    rcases hm with e|e<;>rw[e]<;>exact⟨by decide,by decide⟩
  ·refine Run.s8 (hc w []) [1,3,4] [0,2,5,6,7,8,9] hp ⟨b1,c3,c4,trivial⟩ ⟨c0,hsp,c5,c6,n7,n8,n9,trivial⟩ (by decide) rfl ?_
   conv=>whnf
   refine⟨by kernel_rfl,?_⟩
   refine Run.rM (g:=92) (vs:=[.agg [.opq 3,ii inp,.opq 1]]) rfl (fun ρ w1 hW=>wcall ρ w1 rfl rfl hW) (ent _ _ Try.func92 (by kernel_rfl) rfl) rfl rfl rfl rfl rfl rfl rfl [2,3] [(2,.cells [.opq 3,ii inp,.opq 1] 25),(3,.row 8 N.length ((N.flatMap Prm.vals).map .v) 60)] (AllP.mem ⟨⟨rfl,rfl,.inr (by simp),fun h=>by cases h⟩,⟨rfl,rfl,.inr (by simp),fun h=>by cases h⟩,trivial⟩) [(1,.ptr 2 0),(13,.opq 3)] (AllP.mem ⟨⟨rfl,ltb rfl⟩,⟨rfl,ltb rfl⟩,trivial⟩) fun w1 L1 hE1 hL1=> ?_
   rw[←List.append_nil r]
   refine Run.s8 (hc w1 L1) [0,5,6,7,8,9] [1,2,3,4] hr ⟨inr 0 (by decide) (by decide) c0,inr 5 (by decide) (by decide) c5,inr 6 (by decide) (by decide) c6,a7,a8,a9,trivial⟩ ⟨dis 1 (by decide) b1,hsr,dis 3 (by decide) c3,dis 4 (by decide) c4,trivial⟩ (by decide) rfl ?_
   conv=>whnf
   rw[yA (m:=N.length) rfl rfl rfl rfl rfl rfl (by omega) (by omega)]
   conv=>whnf
   refine⟨by kernel_rfl,?_⟩
   refine Run.s0 (hc w1 L1) 4 _ ?_
   conv=>whnf
   have hLm :∀p∈L1,(p.1=2∨p.1=3∨p.1=10)∧w.heap.size≤p.2:=fun p hp=>⟨by have:=(hL1 p hp).1;simp at this;omega,(hL1 p hp).2.2⟩
   refine Run.rK (cont w1 L1 ⟨hE1,hLm⟩) (rq [(12,23),(23,12),(6,14),(14,6),(10,21),(21,10)]) ?_ ?_ ?_ ?_
   ·intro i hi j hj hne he
    have inv :∀i,i<64→rq [(12,23),(23,12),(6,14),(14,6),(10,21),(21,10)] (rq [(12,23),(23,12),(6,14),(14,6),(10,21),(21,10)] i)=i:=by decide
    exact hne (by rw[←inv i hi,he,inv j hj])
   ·exact⟨⟨rfl,ltb rfl⟩,⟨rfl,ltb rfl⟩,trivial⟩
   ·exact⟨⟨rfl,by omega,(show 3<64 by decide),trivial,(show 1<64 by decide),(show 6<64 by decide),trivial,(show 10<64 by decide),yX (by decide)⟩,⟨congrArg some (by show SObj.row 2 N.length _ 139=SObj.row 2 N.length (SV.rens _ _) 139;rw[x6];exact congrArg (fun x=>SObj.row 2 N.length x 139) (qY (S:=fun _=>False) (fun i hi=>hi.elim) _ (qS _ _)).symm),by omega,Os.h _⟩,⟨rfl,by omega,Os.h _⟩,⟨rfl,by omega,(show 3<64 by decide),trivial,ltb rfl,trivial⟩,⟨congrArg some (ofx (o:=.row 8 N.length ((N.flatMap Prm.vals).map .v) 60) (qL _ _)).symm,by omega,Os.h _⟩,trivial⟩
   ·intro p hp
    have hm:=(hL1 p hp).1
    simp only[List.mem_cons,List.not_mem_nil,or_false]at hm
    rcases hm with e|e<;>rw[e]<;>exact⟨by decide,by decide⟩
  ·refine Run.s8 (hc w []) [0,1,3] [2,4,5,6,7,8,9] hp ⟨c0,b1,c3,trivial⟩ ⟨hsp,c4,c5,c6,n7,n8,n9,trivial⟩ (by decide) rfl ?_
   conv=>whnf
   refine⟨by kernel_rfl,?_⟩
   refine Run.rM (g:=92) (vs:=[.agg [.opq 3,ii inp,.opq 1]]) rfl (fun ρ w1 hW=>wcall ρ w1 rfl rfl hW) (ent _ _ Try.func92 (by kernel_rfl) rfl) rfl rfl rfl rfl rfl rfl rfl [2,3] [(2,.cells [.opq 3,ii inp,.opq 1] 25),(3,.row 8 N.length ((N.flatMap Prm.vals).map .v) 60)] (AllP.mem ⟨⟨rfl,rfl,.inr (by simp),fun h=>by cases h⟩,⟨rfl,rfl,.inr (by simp),fun h=>by cases h⟩,trivial⟩) [(1,.ptr 2 0),(9,.agg [.opq 3,ii inp,.opq 1]),(12,.ptr 2 0)] (AllP.mem ⟨⟨rfl,ltb rfl⟩,⟨rfl,⟨(show 3<14 by decide),trivial,ltb rfl,trivial⟩⟩,⟨rfl,ltb rfl⟩,trivial⟩) fun w1 L1 hE1 hL1=> ?_
   rw[←List.append_nil r]
   refine Run.s8 (hc w1 L1) [4,5,6,7,8,9] [0,1,2,3] hr ⟨inr 4 (by decide) (by decide) c4,inr 5 (by decide) (by decide) c5,inr 6 (by decide) (by decide) c6,a7,a8,a9,trivial⟩ ⟨dis 0 (by decide) c0,dis 1 (by decide) b1,hsr,dis 3 (by decide) c3,trivial⟩ (by decide) rfl ?_
   conv=>whnf
   rw[yA (m:=N.length) rfl rfl rfl rfl rfl rfl (by omega) (by omega)]
   conv=>whnf
   refine⟨by kernel_rfl,?_⟩
   refine Run.s0 (hc w1 L1) 4 _ ?_
   conv=>whnf
   have hLm :∀p∈L1,(p.1=2∨p.1=3∨p.1=10)∧w.heap.size≤p.2:=fun p hp=>⟨by have:=(hL1 p hp).1;simp at this;omega,(hL1 p hp).2.2⟩
   refine Run.rK (cont w1 L1 ⟨hE1,hLm⟩) (rq [(12,23),(23,12),(6,14),(14,6),(10,21),(21,10)]) ?_ ?_ ?_ ?_
   ·intro i hi j hj hne he
    have inv :∀i,i<64→rq [(12,23),(23,12),(6,14),(14,6),(10,21),(21,10)] (rq [(12,23),(23,12),(6,14),(14,6),(10,21),(21,10)] i)=i:=by decide
    exact hne (by rw[←inv i hi,he,inv j hj])
   ·exact⟨⟨rfl,ltb rfl⟩,⟨rfl,ltb rfl⟩,trivial⟩
   ·exact⟨⟨rfl,by omega,(show 3<64 by decide),trivial,(show 1<64 by decide),(show 6<64 by decide),trivial,(show 10<64 by decide),yX (by decide)⟩,⟨congrArg some (by show SObj.row 2 N.length _ 139=SObj.row 2 N.length (SV.rens _ _) 139;rw[x6];exact congrArg (fun x=>SObj.row 2 N.length x 139) (qY (S:=fun _=>False) (fun i hi=>hi.elim) _ (qS _ _)).symm),by omega,Os.h _⟩,⟨rfl,by omega,Os.h _⟩,⟨rfl,by omega,(show 3<64 by decide),trivial,ltb rfl,trivial⟩,⟨congrArg some (ofx (o:=.row 8 N.length ((N.flatMap Prm.vals).map .v) 60) (qL _ _)).symm,by omega,Os.h _⟩,trivial⟩
   ·intro p hp
    have hm:=(hL1 p hp).1
    simp only[List.mem_cons,List.not_mem_nil,or_false]at hm
    rcases hm with e|e<;>rw[e]<;>exact⟨by decide,by decide⟩
  ·refine Run.s8 (hc w []) [1,3] [0,2,4,5,6,7,8,9] hp ⟨b1,c3,trivial⟩ ⟨c0,hsp,c4,c5,c6,n7,n8,n9,trivial⟩ (by decide) rfl ?_
   conv=>whnf
   refine⟨by kernel_rfl,?_⟩
   refine Run.rM (g:=92) (vs:=[.agg [.opq 3,ii inp,.opq 1]]) rfl (fun ρ w1 hW=>wcall ρ w1 rfl rfl hW) (ent _ _ Try.func92 (by kernel_rfl) rfl) rfl rfl rfl rfl rfl rfl rfl [2,3] [(2,.cells [.opq 3,ii inp,.opq 1] 25),(3,.row 8 N.length ((N.flatMap Prm.vals).map .v) 60)] (AllP.mem ⟨⟨rfl,rfl,.inr (by simp),fun h=>by cases h⟩,⟨rfl,rfl,.inr (by simp),fun h=>by cases h⟩,trivial⟩) [(1,.ptr 2 0),(12,.ptr 2 0)] (AllP.mem ⟨⟨rfl,ltb rfl⟩,⟨rfl,ltb rfl⟩,trivial⟩) fun w1 L1 hE1 hL1=> ?_
   rw[←List.append_nil r]
   refine Run.s8 (hc w1 L1) [0,4,5,6,7,8,9] [1,2,3] hr ⟨inr 0 (by decide) (by decide) c0,inr 4 (by decide) (by decide) c4,inr 5 (by decide) (by decide) c5,inr 6 (by decide) (by decide) c6,a7,a8,a9,trivial⟩ ⟨dis 1 (by decide) b1,hsr,dis 3 (by decide) c3,trivial⟩ (by decide) rfl ?_
   conv=>whnf
   rw[yA (m:=N.length) rfl rfl rfl rfl rfl rfl (by omega) (by omega)]
   conv=>whnf
   refine⟨by kernel_rfl,?_⟩
   refine Run.s0 (hc w1 L1) 4 _ ?_
   conv=>whnf
   have hLm :∀p∈L1,(p.1=2∨p.1=3∨p.1=10)∧w.heap.size≤p.2:=fun p hp=>⟨by have:=(hL1 p hp).1;simp at this;omega,(hL1 p hp).2.2⟩
   refine Run.rK (cont w1 L1 ⟨hE1,hLm⟩) (rq [(12,23),(23,12),(6,14),(14,6),(10,21),(21,10)]) ?_ ?_ ?_ ?_
   ·intro i hi j hj hne he
    have inv :∀i,i<64→rq [(12,23),(23,12),(6,14),(14,6),(10,21),(21,10)] (rq [(12,23),(23,12),(6,14),(14,6),(10,21),(21,10)] i)=i:=by decide
    exact hne (by rw[←inv i hi,he,inv j hj])
   ·exact⟨⟨rfl,ltb rfl⟩,⟨rfl,ltb rfl⟩,trivial⟩
   ·exact⟨⟨rfl,by omega,(show 3<64 by decide),trivial,(show 1<64 by decide),(show 6<64 by decide),trivial,(show 10<64 by decide),yX (by decide)⟩,⟨congrArg some (by show SObj.row 2 N.length _ 139=SObj.row 2 N.length (SV.rens _ _) 139;rw[x6];exact congrArg (fun x=>SObj.row 2 N.length x 139) (qY (S:=fun _=>False) (fun i hi=>hi.elim) _ (qS _ _)).symm),by omega,Os.h _⟩,⟨rfl,by omega,Os.h _⟩,⟨rfl,by omega,(show 3<64 by decide),trivial,ltb rfl,trivial⟩,⟨congrArg some (ofx (o:=.row 8 N.length ((N.flatMap Prm.vals).map .v) 60) (qL _ _)).symm,by omega,Os.h _⟩,trivial⟩
   ·intro p hp
    have hm:=(hL1 p hp).1
    simp only[List.mem_cons,List.not_mem_nil,or_false]at hm
    rcases hm with e|e<;>rw[e]<;>exact⟨by decide,by decide⟩
  ·refine Run.s8 (hc w []) [0,1] [2,3,4,5,6,7,8,9] hp ⟨c0,b1,trivial⟩ ⟨hsp,c3,c4,c5,c6,n7,n8,n9,trivial⟩ (by decide) rfl ?_
   conv=>whnf
   refine⟨by kernel_rfl,?_⟩
   refine Run.rM (g:=92) (vs:=[.agg [.opq 3,ii inp,.opq 1]]) rfl (fun ρ w1 hW=>wcall ρ w1 rfl rfl hW) (ent _ _ Try.func92 (by kernel_rfl) rfl) rfl rfl rfl rfl rfl rfl rfl [2,3] [(2,.cells [.opq 3,ii inp,.opq 1] 25),(3,.row 8 N.length ((N.flatMap Prm.vals).map .v) 60)] (AllP.mem ⟨⟨rfl,rfl,.inr (by simp),fun h=>by cases h⟩,⟨rfl,rfl,.inr (by simp),fun h=>by cases h⟩,trivial⟩) [(1,.ptr 2 0),(9,.agg [.opq 3,ii inp,.opq 1])] (AllP.mem ⟨⟨rfl,ltb rfl⟩,⟨rfl,⟨(show 3<14 by decide),trivial,ltb rfl,trivial⟩⟩,trivial⟩) fun w1 L1 hE1 hL1=> ?_
   rw[←List.append_nil r]
   refine Run.s8 (hc w1 L1) [3,4,5,6,7,8,9] [0,1,2] hr ⟨inr 3 (by decide) (by decide) c3,inr 4 (by decide) (by decide) c4,inr 5 (by decide) (by decide) c5,inr 6 (by decide) (by decide) c6,a7,a8,a9,trivial⟩ ⟨dis 0 (by decide) c0,dis 1 (by decide) b1,hsr,trivial⟩ (by decide) rfl ?_
   conv=>whnf
   rw[yA (m:=N.length) rfl rfl rfl rfl rfl rfl (by omega) (by omega)]
   conv=>whnf
   refine⟨by kernel_rfl,?_⟩
   refine Run.s0 (hc w1 L1) 4 _ ?_
   conv=>whnf
   have hLm :∀p∈L1,(p.1=2∨p.1=3∨p.1=10)∧w.heap.size≤p.2:=fun p hp=>⟨by have:=(hL1 p hp).1;simp at this;omega,(hL1 p hp).2.2⟩
   refine Run.rK (cont w1 L1 ⟨hE1,hLm⟩) (rq [(12,23),(23,12),(6,14),(14,6),(10,21),(21,10)]) ?_ ?_ ?_ ?_
   ·intro i hi j hj hne he
    have inv :∀i,i<64→rq [(12,23),(23,12),(6,14),(14,6),(10,21),(21,10)] (rq [(12,23),(23,12),(6,14),(14,6),(10,21),(21,10)] i)=i:=by decide
    exact hne (by rw[←inv i hi,he,inv j hj])
   ·exact⟨⟨rfl,ltb rfl⟩,⟨rfl,ltb rfl⟩,trivial⟩
   ·exact⟨⟨rfl,by omega,(show 3<64 by decide),trivial,(show 1<64 by decide),(show 6<64 by decide),trivial,(show 10<64 by decide),yX (by decide)⟩,⟨congrArg some (by show SObj.row 2 N.length _ 139=SObj.row 2 N.length (SV.rens _ _) 139;rw[x6];exact congrArg (fun x=>SObj.row 2 N.length x 139) (qY (S:=fun _=>False) (fun i hi=>hi.elim) _ (qS _ _)).symm),by omega,Os.h _⟩,⟨rfl,by omega,Os.h _⟩,⟨rfl,by omega,(show 3<64 by decide),trivial,ltb rfl,trivial⟩,⟨congrArg some (ofx (o:=.row 8 N.length ((N.flatMap Prm.vals).map .v) 60) (qL _ _)).symm,by omega,Os.h _⟩,trivial⟩
   ·intro p hp
    have hm:=(hL1 p hp).1
    simp only[List.mem_cons,List.not_mem_nil,or_false]at hm
    rcases hm with e|e<;>rw[e]<;>exact⟨by decide,by decide⟩
  ·refine Run.s8 (hc w []) [1] [0,2,3,4,5,6,7,8,9] hp ⟨b1,trivial⟩ ⟨c0,hsp,c3,c4,c5,c6,n7,n8,n9,trivial⟩ (by decide) rfl ?_
   conv=>whnf
   refine⟨by kernel_rfl,?_⟩
   refine Run.rM (g:=92) (vs:=[.agg [.opq 3,ii inp,.opq 1]]) rfl (fun ρ w1 hW=>wcall ρ w1 rfl rfl hW) (ent _ _ Try.func92 (by kernel_rfl) rfl) rfl rfl rfl rfl rfl rfl rfl [2,3] [(2,.cells [.opq 3,ii inp,.opq 1] 25),(3,.row 8 N.length ((N.flatMap Prm.vals).map .v) 60)] (AllP.mem ⟨⟨rfl,rfl,.inr (by simp),fun h=>by cases h⟩,⟨rfl,rfl,.inr (by simp),fun h=>by cases h⟩,trivial⟩) [(1,.ptr 2 0)] (AllP.mem ⟨⟨rfl,ltb rfl⟩,trivial⟩) fun w1 L1 hE1 hL1=> ?_
   rw[←List.append_nil r]
   refine Run.s8 (hc w1 L1) [0,3,4,5,6,7,8,9] [1,2] hr ⟨inr 0 (by decide) (by decide) c0,inr 3 (by decide) (by decide) c3,inr 4 (by decide) (by decide) c4,inr 5 (by decide) (by decide) c5,inr 6 (by decide) (by decide) c6,a7,a8,a9,trivial⟩ ⟨dis 1 (by decide) b1,hsr,trivial⟩ (by decide) rfl ?_
   conv=>whnf
   rw[yA (m:=N.length) rfl rfl rfl rfl rfl rfl (by omega) (by omega)]
   conv=>whnf
   refine⟨by kernel_rfl,?_⟩
   refine Run.s0 (hc w1 L1) 4 _ ?_
   conv=>whnf
   have hLm :∀p∈L1,(p.1=2∨p.1=3∨p.1=10)∧w.heap.size≤p.2:=fun p hp=>⟨by have:=(hL1 p hp).1;simp at this;omega,(hL1 p hp).2.2⟩
   refine Run.rK (cont w1 L1 ⟨hE1,hLm⟩) (rq [(12,23),(23,12),(6,14),(14,6),(10,21),(21,10)]) ?_ ?_ ?_ ?_
   ·intro i hi j hj hne he
    have inv :∀i,i<64→rq [(12,23),(23,12),(6,14),(14,6),(10,21),(21,10)] (rq [(12,23),(23,12),(6,14),(14,6),(10,21),(21,10)] i)=i:=by decide
    exact hne (by rw[←inv i hi,he,inv j hj])
   ·exact⟨⟨rfl,ltb rfl⟩,⟨rfl,ltb rfl⟩,trivial⟩
   ·exact⟨⟨rfl,by omega,(show 3<64 by decide),trivial,(show 1<64 by decide),(show 6<64 by decide),trivial,(show 10<64 by decide),yX (by decide)⟩,⟨congrArg some (by show SObj.row 2 N.length _ 139=SObj.row 2 N.length (SV.rens _ _) 139;rw[x6];exact congrArg (fun x=>SObj.row 2 N.length x 139) (qY (S:=fun _=>False) (fun i hi=>hi.elim) _ (qS _ _)).symm),by omega,Os.h _⟩,⟨rfl,by omega,Os.h _⟩,⟨rfl,by omega,(show 3<64 by decide),trivial,ltb rfl,trivial⟩,⟨congrArg some (ofx (o:=.row 8 N.length ((N.flatMap Prm.vals).map .v) 60) (qL _ _)).symm,by omega,Os.h _⟩,trivial⟩
   ·intro p hp
    have hm:=(hL1 p hp).1
    simp only[List.mem_cons,List.not_mem_nil,or_false]at hm
    rcases hm with e|e<;>rw[e]<;>exact⟨by decide,by decide⟩
 ·rintro w1 L1 ⟨hE1,hL1⟩
  have hIn :∀i,i≤16→In 64 ((12,.cells ([.opq 3,ii inp,.opq 1,.mp 6,ii 0,.opq 10]++ringC i) 170)::(10,.row 2 N.length ((List.replicate N.length jC).flatMap Ste.cells) 139)::(6,swS S)::(2,.cells [.opq 3,ii inp,.opq 1] 25)::(3,.row 8 N.length ((N.flatMap Prm.vals).map .v) 60)::ringM N.length i):=fun i hi=>wZ fun x hx=>by
   simp only[List.mem_cons]at hx
   rcases hx with rfl|rfl|rfl|rfl|rfl|hx
   ·exact⟨by omega,(show 3<64 by decide),trivial,(show 1<64 by decide),(show 6<64 by decide),trivial,(show 10<64 by decide),yX (by decide)⟩
   ·exact⟨by omega,Os.h _⟩
   ·exact⟨by omega,Os.h _⟩
   ·exact⟨by omega,(show 3<64 by decide),trivial,ltb rfl,trivial⟩
   ·exact⟨by omega,Os.h _⟩
   ·obtain⟨h1,h2,h3⟩:=ringM_mem hi x hx
    exact⟨by omega,h3 _⟩
  have hL64 :∀p∈L1,p.1<64:=fun p hp=>by have:=(hL1 p hp).1;omega
  refine Run.W1 (hc w1 L1) ?_
  conv=>whnf
  refine Run.tH (T':=[(1,.ptr 2 0),(3,.ptr 12 0),(18,ii ((0:Nat):Int))]) (M':=((12,.cells ([.opq 3,ii inp,.opq 1,.mp 6,ii 0,.opq 10]++ringC 0) 170)::(10,.row 2 N.length ((List.replicate N.length jC).flatMap Ste.cells) 139)::(6,swS S)::(2,.cells [.opq 3,ii inp,.opq 1] 25)::(3,.row 8 N.length ((N.flatMap Prm.vals).map .v) 60)::ringM N.length 0)) (n':=64) ?_ ⟨⟨rfl,ltb rfl⟩,⟨rfl,ltb rfl⟩,⟨rfl,trivial⟩,trivial⟩ (gE (gF rfl) (hIn 0 (by decide))) hL64
  refine Run.rD (T:=fun i=>[(1,.ptr 2 0),(3,.ptr 12 0),(18,ii ((i:Nat):Int))]) (M:=fun i=>((12,.cells ([.opq 3,ii inp,.opq 1,.mp 6,ii 0,.opq 10]++ringC i) 170)::(10,.row 2 N.length ((List.replicate N.length jC).flatMap Ste.cells) 139)::(6,swS S)::(2,.cells [.opq 3,ii inp,.opq 1] 25)::(3,.row 8 N.length ((N.flatMap Prm.vals).map .v) 60)::ringM N.length i)) (fun _=>True) 16 trivial ?_ ?_
  ·intro i hi _ ih
   obtain⟨r,hr⟩ :∃r,r=rq [(30+i,69),(69,30+i)]:=⟨_,rfl⟩
   have hinv :∀q,r (r q)=q:=by rw[hr];exact rq_swap (by omega)
   have hfx :∀j,j<30→r j=j:=fun j hj=>by
    rw[hr]
    exact zG (by rw[qP,if_neg (by omega),qP,if_neg (by omega)];rfl)
   have hSc1:AllP (fun x:Nat×SObj=>x.2.sc (· < 30)) ((10,.row 2 N.length ((List.replicate N.length jC).flatMap Ste.cells) 139)::(6,swS S)::(2,.cells [.opq 3,ii inp,.opq 1] 25)::(3,.row 8 N.length ((N.flatMap Prm.vals).map .v) 60)::ringM N.length (i+1)):=⟨qS _ _,trivial,⟨(show 3<30 by decide),trivial,ltb rfl,trivial⟩,qL _ _,wZ fun x hx=>(ringM_mem (by omega) x hx).2.2 _⟩
   have ih':=ih trivial
   clear ih
   have hIn1:=hIn (i+1) (by omega)
   clear hIn
   have hlN':N.length≤1024:=hN
   rcases lt16 hi with rfl|rfl|rfl|rfl|rfl|rfl|rfl|rfl|rfl|rfl|rfl|rfl|rfl|rfl|rfl|rfl
   all_goals
    refine Run.W1 (hc w1 L1) ?_
    conv=>whnf
    refine Run.draw (hc w1 L1) 10 ?_
    rw[show qG 0 10=qG 0 6++qG 6 4 from rfl]
    simp only[qV]
    conv=>whnf
    rw[gN (m:=N.length) rfl rfl rfl rfl rfl rfl (by omega) (by omega)]
    conv=>whnf
    refine⟨by decide,?_⟩
    conv=>whnf
    refine⟨by kernel_rfl,?_⟩
    refine Run.W1 (hc w1 L1) ?_
    conv=>whnf
    exact Run.rK ih' r (fun a _ b _ hne he=>hne (by rw[←hinv a,he,hinv b])) ⟨⟨by rw[hr];rfl,(show 2<64 by decide)⟩,⟨by rw[hr];rfl,(show 12<64 by decide)⟩,⟨rfl,trivial⟩,trivial⟩
     (gE ⟨by rw[hr];rfl,allP_imp (p:=fun x:Nat×SObj=>Sx.look _ (r x.1)=some x.2∧x.2.sc (· < 30)) (fun x hx=>Eq.trans hx.1 (congrArg some (oren_on (S:=(· < 30)) hfx hx.2).symm)) (gE (by rw[hr];exact gF rfl) hSc1)⟩ hIn1) (fun p hp=>⟨hfx _ (by have:=(hL1 p hp).1;omega),hL64 p hp⟩)
  ·intro _
   have hrep:SObj.row 1 N.length ((List.replicate N.length 0).map fun x=>ii x) 3=SObj.row 1 N.length (List.replicate N.length (ii 0)) 3:=by rw[List.map_replicate]
   refine Run.W1 (hc w1 L1) ?_
   conv=>whnf
   refine⟨fun ρ w' hW _=> ?_⟩
   obtain⟨L2,h1,h2⟩:=hW.enterR (rq [(0,12),(1,3),(2,6),(3,10),(20,1),(4,30),(5,31),(6,32),(7,33),(8,34),(9,35),(10,36),(11,37),(12,38),(13,39),(14,40),(15,41),(16,42),(17,43),(18,44),(19,45)]) (nsimM inp 0 N S (List.replicate N.length jC) fun _=>List.replicate N.length 0) 21 [0,3,4,5,6,7,8,9,10,11,12,13,14,15,16,17,18,19] (fun i hi j hj hne=>by
     have inj :∀i,i<21 → ∀j,j<21→i≠j→rq [(0,12),(1,3),(2,6),(3,10),(20,1),(4,30),(5,31),(6,32),(7,33),(8,34),(9,35),(10,36),(11,37),(12,38),(13,39),(14,40),(15,41),(16,42),(17,43),(18,44),(19,45)] i≠rq [(0,12),(1,3),(2,6),(3,10),(20,1),(4,30),(5,31),(6,32),(7,33),(8,34),(9,35),(10,36),(11,37),(12,38),(13,39),(14,40),(15,41),(16,42),(17,43),(18,44),(19,45)] j:=by decide
     exact inj i hi j hj hne) (by repeat first|exact trivial|refine⟨⟨by omega,SV.s7 (by decide) (jN _ _),⟨_,rfl,.inl rfl⟩,.inr (by simp),fun h=>by cases h⟩,?_⟩|refine⟨⟨by omega,trivial,⟨_,rfl,Conv.row (by decide) rfl⟩,.inl rfl,fun _=>by simp⟩,?_⟩|refine⟨⟨by omega,trivial,⟨_,rfl,.inl rfl⟩,.inl rfl,fun _=>by simp⟩,?_⟩|refine⟨⟨by omega,qS _ _,⟨_,rfl,.inl (ofx (o:=.row 2 N.length ((List.replicate N.length jC).flatMap Ste.cells) 139) (qS _ _))⟩,.inr (by simp),fun h=>by cases h⟩,?_⟩|refine⟨⟨by omega,qB _ _,⟨_,rfl,.inl ((ofx (o:=.row 1 N.length ((List.replicate N.length 0).map fun x=>ii x) 3) (qB _ _)).trans hrep)⟩,.inr (by simp),fun h=>by cases h⟩,?_⟩) (fun i hi=>by
     have :∀i∈([0,3,4,5,6,7,8,9,10,11,12,13,14,15,16,17,18,19]:List Nat),i<21:=by decide
     refine⟨this i hi,?_⟩
     simp only[List.mem_cons,List.not_mem_nil,or_false]at hi
     rcases hi with rfl|rfl|rfl|rfl|rfl|rfl|rfl|rfl|rfl|rfl|rfl|rfl|rfl|rfl|rfl|rfl|rfl|rfl<;>exact⟨_,rfl⟩)
   refine⟨ρ.ren (rq [(0,12),(1,3),(2,6),(3,10),(20,1),(4,30),(5,31),(6,32),(7,33),(8,34),(9,35),(10,36),(11,37),(12,38),(13,39),(14,40),(15,41),(16,42),(17,43),(18,44),(19,45)]),L2,rfl,hW.backExt hE1 (fun p hp=>(hL1 p hp).2),fun p hp=> ?_,h2⟩
   obtain⟨g1,g2,o,g3,g4⟩:=h1 p hp
   have hlt :∀i∈([0,3,4,5,6,7,8,9,10,11,12,13,14,15,16,17,18,19]:List Nat),i<21:=by decide
   refine⟨hlt _ g1,?_⟩
   rw[g2]
   have hse:=hE1.size
   rcases hW.new _ o g3 g4 with⟨q,hq,hqe⟩|h
   ·rw[←hqe];exact(hL1 q hq).2
   ·have h:w1.heap.size≤ρ.s (rq [(0,12),(1,3),(2,6),(3,10),(20,1),(4,30),(5,31),(6,32),(7,33),(8,34),(9,35),(10,36),(11,37),(12,38),(13,39),(14,40),(15,41),(16,42),(17,43),(18,44),(19,45)] p.1):=h
    omega
set_option maxHeartbeats 2000000
def nNet (n:Net):Lnt:=⟨n,[],List.replicate n.S.length (-1)⟩
theorem netOK_net {n:Net}(h:jA n=0):NetOK (nNet n):=by
 apply uH
 unfold qZ
 rw[if_neg (by simpa using h),if_neg (by simp),if_neg (show ¬jH yN ([]:List Rul)≠0 from fun h=>h rfl),if_neg (by simp)]
 refine xV fun i hi=> ?_
 simp only[List.getElem_zip,List.getElem_replicate]
 unfold vD
 show(if wi (-1) (-1) (W (((0:Nat):Int)-1))=false then(3:Int)else if (0:Int) ≤ -1 then _ else 0)=0
 rw[if_neg (by decide),if_neg (by decide)]
def nS (n:Net)(l:List Evt):Nat→List Ste×(Nat→List Int)
 | 0=>(List.replicate n.N.length jC,fun _=>List.replicate n.N.length 0)
 |i+1=>((nB (i:Int) n.N (nS n l i).1 (nS n l i).2).1,nDue (i:Int) n.N n.S (nS n l i).1 (nS n l i).2 (trIn l i))
def nSp (n:Net)(l:List Evt)(i:Nat):List Int:=(nB (i:Int) n.N (nS n l i).1 (nS n l i).2).2.1
def nO (n:Net)(l:List Evt):Nat→List Evt
 | 0=>[]
 |i+1=>nO n l i++spk i (nSp n l i)
theorem nSp_len (n:Net)(l:List Evt)(i:Nat):(nSp n l i).length≤n.N.length:=wB _ _ _ _
theorem nO_len (n:Net)(l:List Evt) :∀i,(nO n l i).length≤i*n.N.length
 | 0=>by simp[nO]
 |i+1=>by
  have h1:=nO_len n l i
  have h2:=nSp_len n l i
  simp only[nO,spk,List.length_append,List.length_map]
  rw[Nat.add_mul];omega
theorem nY_st {N:List Prm}{sums:List Int}{st:List Ste}(h:st.length=N.length) :∀j,j≤N.length → ∀i,i<j→(nY N sums st j).1[i]? = (st[i]?).map fun q=>jR (N.getD i prm0) q (sums.getD i 0)
 | 0,_,i,hi=>by omega
 |j+1,hj,i,hi=>by
  rw[vQ]
  simp only[nStep]
  by_cases e:i=j
  ·subst e
   have hl:i<(nY N sums st i).1.length:=by rw[uO];omega
   have hl2:i<st.length:=by omega
   have hge:=nY_ge N sums st i i (Nat.le_refl _)
   have hgd:(nY N sums st i).1.getD i jC=st[i]:=by rw[List.getD_eq_getElem?_getD,hge];simp[hl2]
   rw[List.getElem?_set_self hl,hgd]
   simp[hl2]
  ·rw[List.getElem?_set_ne (Ne.symm e)]
   exact nY_st h j (by omega) i (by omega)
theorem trIn_len (l:List Evt)(i:Nat):(trIn l i).length≤l.length:=by
 unfold trIn
 rw[vI (nAt_le _ _)]
 exact Nat.le_trans (nAt_le _ _) (w9 l i)
theorem nS_ok {n:Net}(h:jA n=0){l:List Evt}(hl:l.length≤65536) :∀i:Nat,i≤10000→SimOK (i:Int) n.N n.S (nS n l i).1 (nS n l i).2 (trIn l i).length:=by
 have hx:=netOK_net h
 have h2:n.N.length≤1024:=hx.N2
 have h3:n.S.length≤8192:=hx.S1
 have base :∀i:Nat,i≤10000→(nS n l i).1.length=n.N.length→(∀j,j<16→((nS n l i).2 j).length=n.N.length)→(∀k (h:k<n.N.length) (h':k<(nS n l i).1.length),vld n.N[k] (nS n l i).1[k]=0)→SimOK (i:Int) n.N n.S (nS n l i).1 (nS n l i).2 (trIn l i).length:=fun i hi g1 g2 g3=>
  ⟨by omega,by omega,g1,g2,h2,h3,by have:=trIn_len l i;omega,fun s hs=>by obtain⟨k,hk,rfl⟩:=List.getElem_of_mem hs;exact hx.to0 k hk,fun s hs=>by obtain⟨k,hk,rfl⟩:=List.getElem_of_mem hs;exact hx.to1 k hk,fun s hs=>by obtain⟨k,hk,rfl⟩:=List.getElem_of_mem hs;exact hx.d0 k hk,fun s hs=>by obtain⟨k,hk,rfl⟩:=List.getElem_of_mem hs;exact hx.d1 k hk,g3⟩
 intro i
 induction i with
 |zero=>
  intro _
  refine base 0 (by omega) (by simp[nS]) (fun j _=>by simp[nS]) fun k hk hk'=> ?_
  have:(nS n l 0).1[k]=jC:=by simp[nS]
  rw[this]
  exact vld_start (hx.chk k hk)
 |succ i ih=>
  intro hi
  have hok:=ih (by omega)
  refine base (i+1) hi ((uO ..).trans hok.lst) (fun j hj=> ?_) fun k hk hk'=> ?_
  ·exact(tI _ _ _ j).trans (dClr_len hok.ld j hj)
  ·have hl:k<(nS n l i).1.length:=by rw[hok.lst];exact hk
   have e2:(nS n l (i+1)).1[k]? = some (jR n.N[k] (nS n l i).1[k] (((nS n l i).2 (zE (i:Int))).getD k 0)):=by
    refine(nY_st hok.lst n.N.length (Nat.le_refl _) k hk).trans ?_
    rw[List.getElem?_eq_getElem hl]
    simp[List.getD_eq_getElem?_getD,hk]
   have e3:=(List.getElem?_eq_some_iff.1 e2).2
   rw[e3]
   exact vld_step (hok.ok k hk hl) _
theorem prep_facts {n:Net}{l:List Evt}{K:Int}(hp:zO n l K 10000=0):jA n=0∧0≤K∧K≤10000∧l.length≤65536:=by
 unfold zO at hp
 split at hp
 ·rename_i h1;exact absurd hp h1
 rename_i h1
 split at hp
 ·cases hp
 rename_i h2
 have h2:=wi_iff.1 (by simpa using h2)
 refine⟨by simpa using h1,h2.1,h2.2,?_⟩
 unfold yJ at hp
 split at hp
 ·cases hp
 ·omega
def ZeroR (x:Lnt):Prop:= ∀r∈x.rs,r.kind=1→r.up=0∧r.down=0
theorem pMark_still {r:Rul}(hr:GoodR r)(h0:r.kind=1→r.up=0∧r.down=0){m:Mrk}(hm:MrkOK r m)(sp ar:Bool):(pMark r sp ar 0 m).w=m.w:=by
 have hb:=hr.bounds
 have h1:=hm.w0
 have h2:=hm.w1
 by_cases hk:r.kind=1
 ·obtain⟨hu,hd⟩:=h0 hk
  obtain⟨a,b,e,a0,a1,b0,b1,ha,hb'⟩:=chg_parts hr (m:=jV r m) (sH hr hm).1 (sH hr hm).2 sp ar
  rw[pMark_w1 hk,e,ha hu,hb' hd,zL (by omega) (by omega)]
  omega
 ·obtain⟨E,_,_,h⟩:=pMark_w2 hk sp ar m ⟨by omega,by omega⟩
  rw[h 0 (by omega) (by omega),Int.zero_mul,Int.zero_tdiv]
  omega
theorem getD_all0 {l:List Int}(h :∀a∈l,a=0)(k:Nat):l.getD k 0=0:=by
 rw[List.getD_eq_getElem?_getD]
 cases e:l[k]? with
 |none=>rfl
 |some a=>exact h a (List.mem_of_getElem? e)
theorem lP_still {x:Lnt}{s:Lst}(hx:NetOK x)(h:LInv x s)(hz:ZeroR x){rw0:List Int}(h0 :∀a∈rw0,a=0)(i:Nat):wAt (lP x s rw0) i=wAt s.m i:=by
 unfold wAt
 rw[lP_get hx h]
 by_cases hi:i∈zD x.pl
 ·rw[if_pos hi,getD_all0 h0]
  exact pMark_still (hx.good hi) (hz _ (rul_mem hx hi)) (h.mok i hi) _ _
 ·rw[if_neg hi]
theorem restG_zero (S:List Syn)(rs:List Rul)(pl:List Int)(tot:List (Key×Value))(m:List Mrk)(e:Key×Value)(h:kiv tot e.1=ival e.2):yF S rs pl tot m e=m:=by
 unfold yF xD yC
 rw[h,Int.sub_self,show W 0=0 from by decide]
 rfl
theorem lR_still {x:Lnt}{s:Lst}(hx:NetOK x)(h:LInv x s)(hz:ZeroR x){rw0:List Int}(h0 :∀a∈rw0,a=0)(hm :∀i,wAt s.m i=wAt x.m0 i)(i:Nat):wAt (lR x s rw0) i=wAt s.m i:=by
 obtain⟨_,_,hr⟩:=lR_all hx h rw0
 have hp:=lP_still hx h hz h0
 by_cases hi:i∉zD x.pl∨uA x.rs x.pl i=false
 ·have e:=hr.same i hi
  have hpi:=hp i
  unfold wAt at hpi ⊢
  rw[e];exact hpi
 ·simp only[not_or,Decidable.not_not,Bool.not_eq_false]at hi
  have e:=hr.grp i hi.1 hi.2
  rw[restG_zero]at e
  ·have hpi:=hp i
   unfold wAt at hpi ⊢
   rw[e];exact hpi
  ·show kiv x.tot (.p _ _)=jM _ _
   unfold Lnt.tot
   rw[sA _ _ _ _ _ _ hi.2 (m0_bounds hx) (by have:=hx.lpl;have:=hx.S1;omega)]
   exact vY fun j _=>by rw[hp j,hm j]
def tS (f:Syn→Bool):List Syn→Int
 | []=>0
 |s::l=>(if f s=true then s.w else 0)+tS f l
theorem tS_add {f g h:Syn→Bool} :∀{l:List Syn},(∀s∈l,(if f s=true then s.w else 0)+(if g s=true then s.w else 0)=if h s=true then s.w else 0)→tS f l+tS g l=tS h l
 | [],_=>rfl
 |s::l,hh=>by
  have h1:=hh s (List.mem_cons_self ..)
  have h2:=tS_add (l:=l) fun a ha=>hh a (List.mem_cons_of_mem _ ha)
  unfold tS
  omega
theorem tS_congr {f g:Syn→Bool} :∀{l:List Syn},(∀s∈l,f s=g s)→tS f l=tS g l
 | [],_=>rfl
 |s::l,hh=>by
  unfold tS
  rw[hh s (List.mem_cons_self ..),tS_congr (l:=l) fun a ha=>hh a (List.mem_cons_of_mem _ ha)]
theorem tS_app (f:Syn→Bool) :∀l l':List Syn,tS f (l++l')=tS f l+tS f l'
 | [],l'=>by simp[tS]
 |s::l,l'=>by
  show(if f s=true then s.w else 0)+tS f (l++l')=((if f s=true then s.w else 0)+tS f l)+tS f l'
  rw[tS_app f l l'];omega
theorem tS_zero {f:Syn→Bool} :∀{l:List Syn},(∀s∈l,f s=false)→tS f l=0
 | [],_=>rfl
 |s::l,hh=>by
  unfold tS
  rw[hh s (List.mem_cons_self ..),tS_zero (l:=l) fun a ha=>hh a (List.mem_cons_of_mem _ ha)]
  rfl
theorem tS_synAt (f:Syn→Bool)(k:Int) :∀S:List Syn,tS f (zH S k)=tS (fun s=>decide (s.fr=k)&&f s) S
 | []=>rfl
 |s::S=>by
  have ih:=tS_synAt f k S
  unfold zH at ih ⊢
  rw[List.filter_cons]
  by_cases e:s.fr=k
  ·rw[if_pos (by simpa using e)]
   unfold tS
   rw[ih,decide_eq_true e,Bool.true_and]
  ·rw[if_neg (by simpa using e),ih]
   show _=(if (decide (s.fr=k)&&f s)=true then s.w else 0)+_
   rw[decide_eq_false e,Bool.false_and,if_neg (by decide)];omega
theorem tS_ylS (f:Syn→Bool)(S:List Syn) :∀ks:List Int,ks.Nodup→tS f (ylS S ks)=tS (fun s=>decide (s.fr∈ks)&&f s) S
 | [],_=>by
  rw[tS_zero (l:=S) (fun s _=>by simp)]
  rfl
 |k::ks,hn=>by
  obtain⟨h1,h2⟩:=List.nodup_cons.1 hn
  show tS f (zH S k++ylS S ks)=_
  rw[tS_app,tS_synAt,tS_ylS f S ks h2]
  refine tS_add fun s _=> ?_
  by_cases e:s.fr=k
  ·have e2:s.fr∉ks:=by rw[e];exact h1
   simp only[e,decide_true,Bool.true_and,List.mem_cons,true_or,h1,decide_false,Bool.false_and,if_neg Bool.false_ne_true]
   omega
  ·simp only[e,decide_false,Bool.false_and,List.mem_cons,false_or,if_neg Bool.false_ne_true]
   omega
theorem getD_set0 {l:List Int}{i j:Nat}{a:Int}(h:j<l.length):(l.set i a).getD j 0=if i=j then a else l.getD j 0:=by
 simp only[List.getD_eq_getElem?_getD]
 by_cases e:i=j
 ·subst e;rw[if_pos rfl,List.getElem?_set_self h];rfl
 ·rw[if_neg e,List.getElem?_set_ne e]
theorem dFold_get (tk:Int)(p j:Nat) :∀(l:List Syn) (due:Nat→List Int) (a:Int),(∀s∈l,0≤s.to)→p<(due j).length→(due j).getD p 0=W a →
  ((l.foldl (dSt tk) due) j).getD p 0=W (a+tS (fun s=>decide (zE (tk+s.d)=j)&&decide (s.to=(p:Int))) l)
 | [],due,a,_,_,h=>by
  show(due j).getD p 0=W (a+0)
  rw[h,Int.add_zero]
 |s::l,due,a,hl,hp,h=>by
  have h0:=hl s (List.mem_cons_self ..)
  have hd:((dSt tk due s) j).getD p 0=W (a+if (decide (zE (tk+s.d)=j)&&decide (s.to=(p:Int)))=true then s.w else 0):=by
   unfold dSt
   by_cases e:j=zE (tk+s.d)
   ·rw[if_pos e,getD_set0 hp]
    by_cases e2:s.to=(p:Int)
    ·have e3:s.to.toNat=p:=by omega
     rw[if_pos e3,e3,h,W_add,decide_eq_true e.symm,decide_eq_true e2];rfl
    ·have e3:s.to.toNat≠p:=by omega
     rw[if_neg e3,h,decide_eq_false e2,Bool.and_false,if_neg (by decide),Int.add_zero]
   ·rw[if_neg e,h,decide_eq_false (Ne.symm e),Bool.false_and,if_neg (by decide),Int.add_zero]
  rw[List.foldl_cons,dFold_get tk p j l (dSt tk due s) _ (fun x hx=>hl x (List.mem_cons_of_mem _ hx)) (by rw[dSt_len];exact hp) hd]
  rw[Int.add_assoc]
  rfl
theorem aY_get (sm:Nat→List Int)(tk:Int)(S:List Syn)(m:List Mrk)(N:Nat)(hm :∀i,i<S.length→(m.getD i qW).w=(S.getD i zC).w)(h0 :∀s∈S,0≤s.to)(p:Nat)(hp:p<N) :∀j,j≤S.length→(aY sm tk S m N j).2.getD p 0=W (tS (fun s=>arrB sm tk s&&decide (s.to=(p:Int))) (S.take j))
 | 0,_=>by
  show(List.replicate N (0:Int)).getD p 0=W 0
  rw[List.getD_eq_getElem?_getD];simp[hp];decide
 |j+1,hj=>by
  have hj':j<S.length:=hj
  have ih:=aY_get sm tk S m N hm h0 p hp j (by omega)
  have hl:=(aY_len sm tk S m N j).2
  have hg:S.getD j zC=S[j]:=by simp[List.getD_eq_getElem?_getD,hj']
  rw[aY_succ,←List.take_append_getElem hj',tS_app]
  unfold aStep
  rw[hm j hj',hg]
  have hto:=h0 _ (List.getElem_mem hj')
  show _=W (_+((if (arrB sm tk S[j]&&decide (S[j].to=(p:Int)))=true then S[j].w else 0)+0))
  by_cases e:arrB sm tk S[j]=true
  ·rw[if_pos e,e,Bool.true_and]
   show(List.set _ _ _).getD p 0=_
   rw[getD_set0 (by rw[hl];exact hp)]
   by_cases e2:S[j].to=(p:Int)
   ·have e3:S[j].to.toNat=p:=by omega
    rw[if_pos e3,e3,ih,W_add,decide_eq_true e2,if_pos rfl,Int.add_zero]
   ·have e3:S[j].to.toNat≠p:=by omega
    rw[if_neg e3,ih,decide_eq_false e2,if_neg (by decide),Int.add_zero,Int.add_zero]
  ·rw[if_neg e,ih]
   simp only[Bool.not_eq_true]at e
   rw[e,Bool.false_and,if_neg (by decide),Int.add_zero,Int.add_zero]
theorem nY_sent (N:List Prm)(sums:List Int)(st:List Ste) :∀j,(nY N sums st j).2.2=(nY N sums st j).2.1∧(∀a∈(nY N sums st j).2.1,0≤a∧a<(j:Int))∧(nY N sums st j).2.1.Nodup
 | 0=>⟨rfl,fun a h=>(by cases h),List.nodup_nil⟩
 |j+1=>by
  obtain⟨h1,h2,h3⟩:=nY_sent N sums st j
  rw[vQ]
  simp only[nStep]
  have hj:(j:Int)∉(nY N sums st j).2.1:=fun h=>by have:=h2 _ h;omega
  split
  ·refine⟨?_,fun a ha=> ?_,?_⟩
   ·show addS _ _=_++_
    unfold addS
    rw[h1,if_neg hj]
   ·rcases List.mem_append.1 ha with ha|ha
    ·have:=h2 a ha;omega
    ·simp only[List.mem_singleton]at ha;subst ha;omega
   ·show List.Nodup (_++_)
    exact List.nodup_append.2 ⟨h3,by simp,fun a ha b hb=>by simp only[List.mem_singleton]at hb;subst hb;intro e;subst e;exact hj ha⟩
  ·exact⟨h1,fun a ha=>by have:=h2 a ha;omega,h3⟩
def srcN (n:Net)(l:List Evt)(u:Nat):List Int:=qK (nSp n l u) (trIn l u)
theorem xH (u:Nat):zE (u:Int)=u % 16:=rfl
theorem trIn_facts {inp:Int}{l:List Evt}(h:EvsOK inp l)(h0:0≤inp∧inp≤256)(i:Nat):(trIn l i).Nodup ∧ ∀k∈trIn l i,0≤k∧k≤1000000:=by
 rw[trIn_eq h.le h.t0,atIn_eq]
 refine⟨?_,fun k hk=> ?_⟩
 ·refine List.Pairwise.imp (R:=fun a b:Int=>a<b) (fun h=>by omega) ?_
  refine List.pairwise_map.2 ?_
  refine List.Pairwise.imp_of_mem (fun ha hb hab=> ?_) (h.pw.filter _)
  have ha:=(List.mem_filter.1 ha).2
  have hb:=(List.mem_filter.1 hb).2
  simp only[beq_iff_eq]at ha hb
  omega
 ·obtain⟨e,he,rfl⟩:=List.mem_map.1 hk
  have:=h.id e (List.mem_filter.1 he).1
  omega
theorem srcN_mem {n:Net}{l:List Evt}{u:Nat}(hl :∀k∈trIn l u,0≤k∧k≤1000000){c:Int}:c∈srcN n l u↔c∈nSp n l u ∨ ∃k∈trIn l u,c = -1-k:=by
 unfold srcN qK
 rw[List.mem_append]
 refine or_congr Iff.rfl ⟨fun h=> ?_,fun⟨k,hk,e⟩=> ?_⟩
 ·obtain⟨k,hk,rfl⟩:=List.mem_map.1 h
  have:=hl k hk
  exact⟨k,hk,zL (by omega) (by omega)⟩
 ·have:=hl k hk
  exact List.mem_map.2 ⟨k,hk,by rw[e];exact zL (by omega) (by omega)⟩
theorem srcN_nodup {n:Net}{l:List Evt}{u:Nat}(hn:(trIn l u).Nodup)(hl :∀k∈trIn l u,0≤k∧k≤1000000):(srcN n l u).Nodup:=by
 unfold srcN qK
 obtain⟨_,h2,h3⟩:=nY_sent n.N ((nS n l u).2 (zE (u:Int))) (nS n l u).1 n.N.length
 refine List.nodup_append.2 ⟨h3,?_,fun a ha b hb=> ?_⟩
 ·refine List.pairwise_map.2 (List.Pairwise.imp_of_mem (fun {a b} ha hb hab=> ?_) hn)
  have:=hl a ha
  have:=hl b hb
  rw[zL (by omega) (by omega),zL (by omega) (by omega)]
  omega
 ·obtain⟨k,hk,rfl⟩:=List.mem_map.1 hb
  have:=hl k hk
  have:=h2 a ha
  rw[zL (by omega) (by omega)]
  omega
theorem trRw_nil (R i:Nat) :∀a∈trRw R [] i,a=0:=by
 have h:pzR [] i=[]:=List.eq_nil_of_length_eq_zero (by have:=pzR_len [] i;simpa using this)
 unfold trRw
 rw[h]
 intro a ha
 have:rwY R [] (nPz (i:Int) [])=List.replicate R 0:=by unfold rwY;simp
 rw[this]at ha
 exact List.eq_of_mem_replicate ha
structure StillInv (x:Lnt) (l:List Evt) (i:Nat):Prop where
 w :∀k,wAt (trS x l [] i).m k=wAt x.m0 k
 st:(trS x l [] i).st=(nS x.n l i).1
 sm :∀u:Nat,u<i→i≤u+16 → ∀c,c∈(trS x l [] i).sm (zE (u:Int))↔c∈srcN x.n l u
 due :∀T:Nat,i≤T→T<i+16 → ∀p,p<x.n.N.length→((nS x.n l i).2 (zE (T:Int))).getD p 0=W (tS (fun s=>decide (s.to=(p:Int)∧s.d≤(T:Int)∧(T:Int)<(i:Int)+s.d∧s.fr∈srcN x.n l ((T:Int)-s.d).toNat)) x.n.S)
 out:trO x l [] i=nO x.n l i
theorem still_inv {x:Lnt}(hx:NetOK x)(hn:jA x.n=0)(hz:ZeroR x){l:List Evt}(hl:EvsOK x.n.inp l)(hll:l.length≤65536) :∀i:Nat,i≤10000→StillInv x l i:=by
 have hb:0≤x.n.inp∧x.n.inp≤256:=⟨hx.inp0,hx.inp1⟩
 have hto0 :∀s∈x.n.S,0≤s.to:=fun s hs=>by obtain⟨k,hk,rfl⟩:=List.getElem_of_mem hs;exact hx.to0 k hk
 have hd :∀s∈x.n.S,1≤s.d∧s.d≤16:=fun s hs=>by obtain⟨k,hk,rfl⟩:=List.getElem_of_mem hs;exact⟨hx.d0 k hk,hx.d1 k hk⟩
 intro i
 induction i with
 |zero=>
  intro _
  refine⟨fun k=>rfl,rfl,fun u h=>by omega,fun T h1 h2 p hp=> ?_,rfl⟩
  rw[tS_zero fun s hs=> ?_]
  ·show(List.replicate x.n.N.length (0:Int)).getD p 0=W 0
   rw[List.getD_eq_getElem?_getD];simp[hp];decide
  ·refine decide_eq_false fun h=> ?_
   omega
 |succ i ih=>
  intro hi
  have J:=ih (by omega)
  have hsim:=nS_ok hn hll i (by omega)
  have hinv:=gD hx l [] i (by omega)
  have htk:=tB x l [] i (by omega)
  obtain⟨hin1,hin2⟩:=trIn_facts hl hb i
  have hA:(lA x (trS x l [] i)).2=(nS x.n l i).2 (zE (i:Int)):=by
   have hla:(lA x (trS x l [] i)).2.length=x.n.N.length:=(aY_len ..).2
   have hlb:=hsim.ld (zE (i:Int)) yI
   refine List.ext_getElem (by omega) fun p h1 h2=> ?_
   have hp:p<x.n.N.length:=by omega
   have e1:=aY_get (trS x l [] i).sm (trS x l [] i).tick x.n.S (trS x l [] i).m x.n.N.length (fun k _=>by
    have:=J.w k
    unfold wAt at this
    rw[this,m0_get];rfl) hto0 p hp x.n.S.length (Nat.le_refl _)
   have e2:=J.due i (Nat.le_refl _) (by omega) p hp
   rw[List.take_length]at e1
   have e3:(lA x (trS x l [] i)).2.getD p 0=((nS x.n l i).2 (zE (i:Int))).getD p 0:=by
    refine Eq.trans e1 (Eq.trans (congrArg W (tS_congr fun s hs=> ?_)) e2.symm)
    have hds:=hd s hs
    rw[htk]
    unfold arrB
    rw[Bool.eq_iff_iff]
    simp only[Bool.and_eq_true,decide_eq_true_eq]
    constructor
    ·rintro⟨⟨h1,h2⟩,h3⟩
     refine⟨h3,h1,by omega,?_⟩
     have hu:((((i:Int)-s.d).toNat:Nat):Int)=(i:Int)-s.d:=by omega
     rw[←hu]at h2
     exact(J.sm _ (by omega) (by omega) _).1 h2
    ·rintro⟨h3,h1,_,h2⟩
     refine⟨⟨h1,?_⟩,h3⟩
     have hu:((((i:Int)-s.d).toNat:Nat):Int)=(i:Int)-s.d:=by omega
     rw[←hu]
     exact(J.sm _ (by omega) (by omega) _).2 h2
   simpa[List.getD_eq_getElem?_getD,h1,h2]using e3
  have hB:lB x (trS x l [] i)=nB (i:Int) x.n.N (nS x.n l i).1 (nS x.n l i).2:=by
   unfold lB nB
   rw[hA,J.st]
  have hsent:(lB x (trS x l [] i)).2.2=nSp x.n l i:=by
   rw[hB]
   exact(nY_sent ..).1
  refine⟨fun k=> ?_,?_,fun u h1 h2 c=> ?_,fun T h1 h2 p hp=> ?_,?_⟩
  ·exact(lR_still hx hinv hz (trRw_nil _ i) J.w k).trans (J.w k)
  ·show(lB x (trS x l [] i)).1=_
   rw[hB];rfl
  ·show c∈(if zE (u:Int)=zE (trS x l [] i).tick then x9 (lB x (trS x l [] i)).2.2 (trIn l i)else(trS x l [] i).sm (zE (u:Int)))↔_
   rw[htk,xH,xH]
   by_cases e:u=i
   ·subst e
    rw[if_pos rfl,mem_sendL hin2,hsent,srcN_mem hin2]
   ·rw[if_neg (by omega),←xH]
    exact J.sm u (by omega) (by omega) c
  ·show(((ylS x.n.S (srcN x.n l i)).foldl (dSt (i:Int)) (dClr (zE (i:Int)) x.n.N.length (nS x.n l i).2)) (zE (T:Int))).getD p 0=_
   have hk16:zE (T:Int)<16:=yI
   rw[dFold_get (i:Int) p (zE (T:Int)) _ _ (tS (fun s=>decide (s.to=(p:Int)∧s.d≤(T:Int)∧(T:Int)<(i:Int)+s.d∧s.fr∈srcN x.n l ((T:Int)-s.d).toNat)) x.n.S) (fun s hs=> ?_) (by rw[dClr_len hsim.ld _ hk16];exact hp) ?_]
   ·rw[tS_ylS _ _ _ (srcN_nodup hin1 hin2)]
    refine congrArg W (tS_add fun s hs=> ?_)
    have hds:=hd s hs
    have hsl:zE ((i:Int)+s.d)=(i+s.d.toNat) % 16:=by rw[←xH];congr 1;omega
    rw[hsl,xH]
    rcases Int.lt_trichotomy (T:Int) ((i:Int)+s.d)with h|h|h
    ·have e1 :¬(i+s.d.toNat) % 16=T % 16:=by omega
     have e2:(T:Int)<((i+1:Nat):Int)+s.d:=by omega
     simp only[e1,h,e2,decide_false,Bool.false_and,Bool.and_false,if_neg Bool.false_ne_true,true_and]
     omega
    ·have e1:(i+s.d.toNat) % 16=T % 16:=by omega
     have e2:(T:Int)<((i+1:Nat):Int)+s.d:=by omega
     have e3 :¬(T:Int)<(i:Int)+s.d:=by omega
     have e4:((T:Int)-s.d).toNat=i:=by omega
     have e5:s.d≤(T:Int):=by omega
     simp only[e1,e2,e3,e4,e5,decide_true,Bool.true_and,true_and,false_and,and_false,decide_false,if_neg Bool.false_ne_true]
     have:(decide (s.fr∈srcN x.n l i)&&decide (s.to=(p:Int)))=decide (s.to=(p:Int)∧s.fr∈srcN x.n l i):=by
      rw[Bool.eq_iff_iff];simp[and_comm]
     rw[this]
     omega
    ·have e1 :¬(i+s.d.toNat) % 16=T % 16:=by omega
     have e2 :¬(T:Int)<((i+1:Nat):Int)+s.d:=by omega
     have e3 :¬(T:Int)<(i:Int)+s.d:=by omega
     simp only[e1,e2,e3,decide_false,Bool.false_and,Bool.and_false,false_and,and_false,if_neg Bool.false_ne_true]
     omega
   ·unfold dClr
    by_cases e:zE (T:Int)=zE (i:Int)
    ·rw[if_pos e,tS_zero fun s hs=> ?_]
     ·rw[List.getD_eq_getElem?_getD];simp[hp];decide
     ·refine decide_eq_false fun h=> ?_
      have hds:=hd s hs
      rw[xH,xH]at e
      omega
    ·rw[if_neg e]
     rw[xH,xH]at e
     exact J.due T (by omega) (by omega) p hp
   ·obtain⟨k,_,hk⟩:=List.mem_flatMap.1 hs
    exact hto0 s (List.mem_filter.1 hk).1
  ·show trO x l [] i++spk i (lOut x (trS x l [] i))=nO x.n l i++spk i (nSp x.n l i)
   rw[J.out]
   unfold lOut
   rw[hB];rfl
theorem still {x:Lnt}(hc:qZ x.n x.rs x.pl=0)(hz:ZeroR x){l:List Evt}{K:Nat}(hp:zO ⟨[zB],x.n.inp,[]⟩ l (K:Int) 10000=0) :
  zO x.n l (K:Int) 10000=0∧trO x l [] K=nO x.n l K∧nowL x.n.S (trS x l [] K).m=x.n.S:=by
 have hx:NetOK x:=uH hc
 have hn:jA x.n=0:=by
  unfold qZ at hc
  split at hc
  ·rename_i h1;exact absurd hc h1
  ·rename_i h1;simpa using h1
 obtain⟨_,_,hK,hll⟩:=prep_facts hp
 have hev:=kX (prep_evs hp) ⟨hx.inp0,hx.inp1⟩
 have J:=still_inv hx hn hz hev hll K (by omega)
 refine⟨?_,J.out,?_⟩
 ·unfold zO at hp ⊢
  rw[if_neg (by simpa using hn)]
  split at hp
  ·rename_i h1;exact absurd hp h1
  ·exact hp
 ·have hinv:=gD hx l [] K (by omega)
  refine List.ext_getElem (now_len x _) fun i h1 h2=> ?_
  have e:=now_get hinv h2
  rw[J.w i]at e
  unfold wAt at e
  rw[m0_get]at e
  simpa[List.getD_eq_getElem?_getD,h1,h2,mk0]using e
end Go.Proofs.Ytnnlpdgnlccbjaa
