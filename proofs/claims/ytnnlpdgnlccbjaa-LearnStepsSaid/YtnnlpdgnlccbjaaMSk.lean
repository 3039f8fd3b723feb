/-
  Laws of the small executor, and walks of the functions that the statement reaches (part 11 of several, put together out of smaller texts).
  The conditions stand with each law.
-/
import Derived.ProofKit
import Derived.OpenShut
import Derived.ChangeOld
import Derived.Below
import Derived.Lib.SmallJoins
import Derived.Test.YtnnlpdgnlccbjaaMSj
namespace Go.Proofs.Ytnnlpdgnlccbjaa
open Go.Sx
open Go.ChangeShapes Go.WideShapes Go.ChangeAt Go.RowKit Go.Deep Go.Joins
set_option maxRecDepth 100000
theorem Ext.below {w w':World}(h:Ext w w'):Below w.heap.size w w':=⟨h.os,h.tape,h.output,h.size,h.keep⟩
theorem laidOut:laidOutB Try.prog=true:=by kernel_rfl
section
variable {H:Type} {enc:TypeId×Value→H} {W:World} {base b0:Nat} {spare:Nat→Bool} {held:Bool} {r:Reach} {v:Value} {d:DataW H} {pl:List MemPlace}
theorem el_prm {n:Nat}{cs:List Value}{y:DataW H×List MemPlace}(h:DataW.trod enc Try.prog W base spare held n 60 cs=some y) :∃p:Prm,cs=p.vals:=by
 obtain⟨xs,m,_,hx,hlen,hxl,hg⟩:=DataW.trod_struct Try.underlying60 h
 have hC:Try.prog.cellsOf 60=8:=by kernel_rfl
 rw[hC]at hlen
 clear hx
 match cs,hlen with
 | [c0,c1,c2,c3,c4,c5,c6,c7],_=>
  match xs,hxl with
  | [y0,y1,y2,y3,y4,y5,y6,y7],_=>
   have h1:Try.prog.cellsOf 3=1:=by kernel_rfl
   have g0:DataW.trod enc Try.prog W base spare held m 3 [c0]=some y0:=by simpa[h1]using hg 0 _ rfl
   have g1:DataW.trod enc Try.prog W base spare held m 3 [c1]=some y1:=by simpa[h1]using hg 1 _ rfl
   have g2:DataW.trod enc Try.prog W base spare held m 3 [c2]=some y2:=by simpa[h1]using hg 2 _ rfl
   have g3:DataW.trod enc Try.prog W base spare held m 3 [c3]=some y3:=by simpa[h1]using hg 3 _ rfl
   have g4:DataW.trod enc Try.prog W base spare held m 3 [c4]=some y4:=by simpa[h1]using hg 4 _ rfl
   have g5:DataW.trod enc Try.prog W base spare held m 3 [c5]=some y5:=by simpa[h1]using hg 5 _ rfl
   have g6:DataW.trod enc Try.prog W base spare held m 3 [c6]=some y6:=by simpa[h1]using hg 6 _ rfl
   have g7:DataW.trod enc Try.prog W base spare held m 3 [c7]=some y7:=by simpa[h1]using hg 7 _ rfl
   obtain⟨n0,e0,_,w0⟩:=DataW.trod_int Try.underlying3 g0
   obtain⟨n1,e1,_,w1⟩:=DataW.trod_int Try.underlying3 g1
   obtain⟨n2,e2,_,w2⟩:=DataW.trod_int Try.underlying3 g2
   obtain⟨n3,e3,_,w3⟩:=DataW.trod_int Try.underlying3 g3
   obtain⟨n4,e4,_,w4⟩:=DataW.trod_int Try.underlying3 g4
   obtain⟨n5,e5,_,w5⟩:=DataW.trod_int Try.underlying3 g5
   obtain⟨n6,e6,_,w6⟩:=DataW.trod_int Try.underlying3 g6
   obtain⟨n7,e7,_,w7⟩:=DataW.trod_int Try.underlying3 g7
   simp only[List.cons.injEq,and_true]at e0 e1 e2 e3 e4 e5 e6 e7
   subst e0 e1 e2 e3 e4 e5 e6 e7
   exact⟨⟨n0,n1,n2,n3,n4,n5,n6,n7⟩,rfl⟩
theorem el_syn {n:Nat}{cs:List Value}{y:DataW H×List MemPlace}(h:DataW.trod enc Try.prog W base spare held n 55 cs=some y) :∃p:Syn,cs=p.vals:=by
 obtain⟨xs,m,_,hx,hlen,hxl,hg⟩:=DataW.trod_struct Try.underlying55 h
 have hC:Try.prog.cellsOf 55=4:=by kernel_rfl
 rw[hC]at hlen
 clear hx
 match cs,hlen with
 | [c0,c1,c2,c3],_=>
  match xs,hxl with
  | [y0,y1,y2,y3],_=>
   have h1:Try.prog.cellsOf 3=1:=by kernel_rfl
   have g0:DataW.trod enc Try.prog W base spare held m 3 [c0]=some y0:=by simpa[h1]using hg 0 _ rfl
   have g1:DataW.trod enc Try.prog W base spare held m 3 [c1]=some y1:=by simpa[h1]using hg 1 _ rfl
   have g2:DataW.trod enc Try.prog W base spare held m 3 [c2]=some y2:=by simpa[h1]using hg 2 _ rfl
   have g3:DataW.trod enc Try.prog W base spare held m 3 [c3]=some y3:=by simpa[h1]using hg 3 _ rfl
   obtain⟨n0,e0,_,w0⟩:=DataW.trod_int Try.underlying3 g0
   obtain⟨n1,e1,_,w1⟩:=DataW.trod_int Try.underlying3 g1
   obtain⟨n2,e2,_,w2⟩:=DataW.trod_int Try.underlying3 g2
   obtain⟨n3,e3,_,w3⟩:=DataW.trod_int Try.underlying3 g3
   simp only[List.cons.injEq,and_true]at e0 e1 e2 e3
   subst e0 e1 e2 e3
   exact⟨⟨n0,n1,n2,n3⟩,rfl⟩
theorem el_rul {n:Nat}{cs:List Value}{y:DataW H×List MemPlace}(h:DataW.trod enc Try.prog W base spare held n 36 cs=some y) :∃p:Rul,cs=p.vals:=by
 obtain⟨xs,m,_,hx,hlen,hxl,hg⟩:=DataW.trod_struct Try.underlying36 h
 have hC:Try.prog.cellsOf 36=10:=by kernel_rfl
 rw[hC]at hlen
 clear hx
 match cs,hlen with
 | [c0,c1,c2,c3,c4,c5,c6,c7,c8,c9],_=>
  match xs,hxl with
  | [y0,y1,y2,y3,y4,y5,y6,y7,y8,y9],_=>
   have h1:Try.prog.cellsOf 3=1:=by kernel_rfl
   have h2:Try.prog.cellsOf 4=1:=by kernel_rfl
   have g0:DataW.trod enc Try.prog W base spare held m 3 [c0]=some y0:=by simpa[h1]using hg 0 _ rfl
   have g1:DataW.trod enc Try.prog W base spare held m 3 [c1]=some y1:=by simpa[h1]using hg 1 _ rfl
   have g2:DataW.trod enc Try.prog W base spare held m 3 [c2]=some y2:=by simpa[h1]using hg 2 _ rfl
   have g3:DataW.trod enc Try.prog W base spare held m 3 [c3]=some y3:=by simpa[h1]using hg 3 _ rfl
   have g4:DataW.trod enc Try.prog W base spare held m 3 [c4]=some y4:=by simpa[h1]using hg 4 _ rfl
   have g5:DataW.trod enc Try.prog W base spare held m 3 [c5]=some y5:=by simpa[h1]using hg 5 _ rfl
   have g6:DataW.trod enc Try.prog W base spare held m 3 [c6]=some y6:=by simpa[h1]using hg 6 _ rfl
   have g7:DataW.trod enc Try.prog W base spare held m 3 [c7]=some y7:=by simpa[h1]using hg 7 _ rfl
   have g8:DataW.trod enc Try.prog W base spare held m 3 [c8]=some y8:=by simpa[h1]using hg 8 _ rfl
   have g9:DataW.trod enc Try.prog W base spare held m 4 [c9]=some y9:=by simpa[h2]using hg 9 _ rfl
   obtain⟨n0,e0,_,w0⟩:=DataW.trod_int Try.underlying3 g0
   obtain⟨n1,e1,_,w1⟩:=DataW.trod_int Try.underlying3 g1
   obtain⟨n2,e2,_,w2⟩:=DataW.trod_int Try.underlying3 g2
   obtain⟨n3,e3,_,w3⟩:=DataW.trod_int Try.underlying3 g3
   obtain⟨n4,e4,_,w4⟩:=DataW.trod_int Try.underlying3 g4
   obtain⟨n5,e5,_,w5⟩:=DataW.trod_int Try.underlying3 g5
   obtain⟨n6,e6,_,w6⟩:=DataW.trod_int Try.underlying3 g6
   obtain⟨n7,e7,_,w7⟩:=DataW.trod_int Try.underlying3 g7
   obtain⟨n8,e8,_,w8⟩:=DataW.trod_int Try.underlying3 g8
   obtain⟨n9,e9,_⟩:=DataW.trod_bool Try.underlying4 g9
   simp only[List.cons.injEq,and_true]at e0 e1 e2 e3 e4 e5 e6 e7 e8 e9
   subst e0 e1 e2 e3 e4 e5 e6 e7 e8 e9
   exact⟨⟨n0,n1,n2,n3,n4,n5,n6,n7,n8,n9⟩,rfl⟩
theorem tL {α : Type}{t e:TypeId}{k:Nat}(vals : α → List Value)(hvl :∀a,(vals a).length=k)(hk:0<k)(ht:Try.prog.underlying t=some (.slice e))(hc:Try.prog.cellsOf e=k)
  (hel :∀{n:Nat} {cs:List Value} {y:DataW H×List MemPlace},DataW.trod enc Try.prog W base spare held n e cs=some y → ∃p : α,cs=vals p) {n:Nat} {cs:List Value} {y:DataW H×List MemPlace} (h:DataW.trod enc Try.prog W base spare held n t cs=some y) :
  ∃(v:Value) (l:List α),cs=[v]∧RowsAt W v k l.length (l.flatMap vals)∧l.length≤maxLen:=by
 rcases DataW.trod_slice ht h with⟨h0,_⟩|⟨a,len,cap,elems,rest,m,_,rfl,_,hb,hl,hm,hlen,hel2,hsp,hns⟩
 ·exact⟨_,[],h0,⟨by simp,none,0,rfl,Nat.le_refl _,.inl rfl⟩,Nat.zero_le _⟩
 have each :∀i:Fin len,∃p : α,W.cells? base (a.add (i.1*k)) k=some (vals p):=by
  intro i
  have h1:=hel2 i.1 i.2
  have h2:elems[i.1]? = some (elems[i.1]'(by omega)):=List.getElem?_eq_getElem _
  rw[h2,hc,Option.bind_eq_some_iff]at h1
  obtain⟨cs',h3,h4⟩:=h1
  obtain⟨p,hp⟩:=hel h4
  exact⟨p,by rw[h3,hp]⟩
 let l:List α :=List.ofFn fun i:Fin len=>Classical.choose (each i)
 have hll:l.length=len:=List.length_ofFn
 have hlg :∀i (hi:i<len),W.cells? base (a.add (i*k)) k=some (vals (l[i]'(by rw[hll];exact hi))):=fun i hi=>by
  have:=Classical.choose_spec (each ⟨i,hi⟩)
  simp only[l,List.getElem_ofFn]
  exact this
 refine⟨_,l,rfl,⟨yX hvl l,some a,cap,by rw[hll],by omega,?_⟩,by omega⟩
 by_cases h0:len=0
 ·exact .inl (by omega)
 obtain⟨blk,off,spot⟩:=a
 have hc0:W.cell? ⟨blk,off,spot⟩≠none:=by
  have h1:=(World.cells?_some (hlg 0 (by omega))).2.2 0 hk
  have h2:(vals (l[0]'(by omega)))[0]? = some ((vals (l[0]'(by omega)))[0]'(by rw[hvl];exact hk)):=List.getElem?_eq_getElem _
  rw[h2]at h1
  simp[Addr.add]at h1
  rw[h1];simp
 have hspot:spot=none:=by
  cases hcc:W.cell? ⟨blk,off,spot⟩with
  |none=>exact absurd hcc hc0
  |some x=>exact World.cell?_spot hcc
 subst hspot
 have hcell :∀j x,(l.flatMap vals)[j]? = some x→W.cell? ⟨blk,off+j,none⟩=some x:=by
  intro j x hj
  have hjl:j<len*k:=by
   have:=(List.getElem?_eq_some_iff.1 hj).1
   rw[yX hvl,hll]at this
   exact this
  have hq:j / k<len:=Nat.div_lt_of_lt_mul (by rw[Nat.mul_comm];exact hjl)
  have hr:=Nat.mod_lt j hk
  have hdm:j / k*k+j % k=j:=by rw[Nat.mul_comm];exact Nat.div_add_mod j k
  have h1:=(World.cells?_some (hlg (j / k) hq)).2.2 (j % k) hr
  have h2:=get_flat (f:=vals) hvl (l:=l) (i:=j / k) (k:=j % k) (by omega) hr
  rw[zN,zN,hdm,hj]at h2
  rw[←h2]at h1
  rw[jI,jI]at h1
  rw[show off+j=off+j / k*k+j % k by omega]
  exact h1
 refine .inr ⟨blk,off,rfl,?_,hcell⟩
 have h2:(l.flatMap vals)[0]? = some ((l.flatMap vals)[0]'(by rw[yX hvl,hll];exact Nat.mul_pos (by omega) hk)):=List.getElem?_eq_getElem _
 have h3:=hcell 0 _ h2
 unfold World.cell? at h3
 rcases Nat.lt_or_ge blk W.heap.size with hlt|hge
 ·exact hlt
 ·simp[Array.getElem?_eq_none hge]at h3
theorem open_rows_rul (hv:Value.okWide Try.prog W r b0 26 v)(h:DataW.Trod enc Try.prog W base spare held 26 v d pl) :∃l:List Rul,RowsAt W v 10 l.length (l.flatMap Rul.vals)∧l.length≤maxLen:=by
 obtain⟨a0,len,cap,rfl⟩:=okWide_slice Try.underlying26 hv
 obtain⟨fuel,hf⟩:=h
 obtain⟨v,l,h1,h2⟩:=tL Rul.vals Rul.vlen (by decide) Try.underlying26 (by kernel_rfl) el_rul hf
 simp[Value.cells]at h1
 subst h1
 exact⟨l,h2⟩
theorem el_int {n:Nat}{cs:List Value}{y:DataW H×List MemPlace}(h:DataW.trod enc Try.prog W base spare held n 3 cs=some y) :∃p:Int,cs=[.int .i64 p]:=by
 obtain⟨n0,e0,_,w0⟩:=DataW.trod_int Try.underlying3 h
 exact⟨n0,e0⟩
theorem ints_flat (l:List Int):l.flatMap (fun x=>[Value.int .i64 x])=qB l:=by
 induction l with
 |nil=>rfl
 |cons a l ih=>rw[List.flatMap_cons,ih];rfl
theorem sQ {n:Nat}{cs:List Value}{y:DataW H×List MemPlace}(h:DataW.trod enc Try.prog W base spare held n 27 cs=some y) :∃(v:Value) (l:List Int),cs=[v]∧RowsAt W v 1 l.length (qB l)∧l.length≤maxLen:=by
 obtain⟨v,l,h1,h2,h3⟩:=tL (fun x:Int=>[Value.int .i64 x]) (fun _=>rfl) (by decide) Try.underlying27 (by kernel_rfl) el_int h
 rw[ints_flat]at h2
 exact⟨v,l,h1,h2,h3⟩
theorem open_rows_int (hv:Value.okWide Try.prog W r b0 27 v)(h:DataW.Trod enc Try.prog W base spare held 27 v d pl) :∃l:List Int,RowsAt W v 1 l.length (qB l)∧l.length≤maxLen:=by
 obtain⟨a0,len,cap,rfl⟩:=okWide_slice Try.underlying27 hv
 obtain⟨fuel,hf⟩:=h
 obtain⟨v,l,h1,h2⟩:=sQ hf
 simp[Value.cells]at h1
 subst h1
 exact⟨l,h2⟩
theorem el_net {n:Nat}{cs:List Value}{y:DataW H×List MemPlace}(h:DataW.trod enc Try.prog W base spare held n 25 cs=some y) :∃(vN vS:Value) (x:Net),cs=[vN,.int .i64 x.inp,vS]∧vK W vN vS x:=by
 obtain⟨xs,m,_,hx,hlen,hxl,hg⟩:=DataW.trod_struct Try.underlying25 h
 have hC:Try.prog.cellsOf 25=3:=by kernel_rfl
 rw[hC]at hlen
 clear hx
 match cs,hlen with
 | [c0,c1,c2],_=>
  match xs,hxl with
  | [y0,y1,y2],_=>
   have h1:Try.prog.cellsOf 3=1:=by kernel_rfl
   have h2:Try.prog.cellsOf 22=1:=by kernel_rfl
   have h3:Try.prog.cellsOf 23=1:=by kernel_rfl
   have g0:DataW.trod enc Try.prog W base spare held m 22 [c0]=some y0:=by simpa[h2]using hg 0 _ rfl
   have g1:DataW.trod enc Try.prog W base spare held m 3 [c1]=some y1:=by simpa[h1]using hg 1 _ rfl
   have g2:DataW.trod enc Try.prog W base spare held m 23 [c2]=some y2:=by simpa[h3]using hg 2 _ rfl
   obtain⟨v0,l0,e0,r0,_⟩:=tL Prm.vals Prm.vlen (by decide) Try.underlying22 (by kernel_rfl) el_prm g0
   obtain⟨n1,e1⟩:=el_int g1
   obtain⟨v2,l2,e2,r2,_⟩:=tL Syn.vals Syn.vlen (by decide) Try.underlying23 (by kernel_rfl) el_syn g2
   simp only[List.cons.injEq,and_true]at e0 e1 e2
   subst e0 e1 e2
   exact⟨c0,c2,⟨l0,n1,l2⟩,rfl,r0,r2⟩
theorem open_net (hv:Value.okWide Try.prog W r b0 25 v)(h:DataW.Trod enc Try.prog W base spare held 25 v d pl) :∃(vN vS:Value) (x:Net),v=xL vN vS x∧vK W vN vS x:=by
 obtain⟨cs,rfl,hsz⟩:=okWide_struct Try.underlying25 hv
 obtain⟨l⟩:=cs
 obtain⟨fuel,hf⟩:=h
 obtain⟨vN,vS,x,hp,hn⟩:=el_net hf
 simp[Value.cells]at hp
 subst hp
 exact⟨vN,vS,x,rfl,hn⟩
end
end Go.Proofs.Ytnnlpdgnlccbjaa
namespace Go.Proofs.Ytnnlpdgnlccbjaa
open Go.Sx
set_option maxRecDepth 100000
set_option maxHeartbeats 4000000
theorem is_at (b:Nat)(x0 x1 x2 x3:Value)(p:Option Addr)(n cap:Nat)(w:World)(hb:b<w.heap.size)(h :∀j x,[x0,x1,x2,x3,Value.slice p n cap][j]? = some x→w.cell? ⟨b,0+j,none⟩=some x) :
  Calls Try.prog 67 #[.pointer (some ⟨b,0,none⟩)] w fun e w'=>e = .returned (.bool (decide (0<(n:Int))))∧Ext w w':=by
 have hc:Cx.ok ⟨Try.prog,tab,[],67,Try.f67,[],w,[],none⟩:=⟨qI,trivial,Try.func67,mixed,fun _ h=>by cases h⟩
 have hW:WI w [] (envM b 0) (Sx.look [(0,.win [x0,x1,x2,x3,Value.slice p n cap])]) (· < 1) w:=WI.tell (fun y hy=>by
   obtain rfl:=List.mem_singleton.1 hy
   exact⟨(show 0<1 by decide),trivial,hb,(fun p hp=>by cases hp),h⟩) (fun x hx y hy hne=>by
   obtain rfl:=List.mem_singleton.1 hx
   obtain rfl:=List.mem_singleton.1 hy
   exact absurd rfl hne) (fun x hx ho=>by
   obtain rfl:=List.mem_singleton.1 hx
   exact ho.elim) (fun p hp=>by cases hp)
 refine Run.calls (tab:=tab) (pf:=[]) (cuts:=[]) Try.func67 rfl (envM b 0) [.ptr 0 0] [(0,.win [x0,x1,x2,x3,Value.slice p n cap])] 1 ⟨ltb rfl,trivial⟩ rfl hW (Run.r8 hc 100 _ ?_)
 conv=>whnf
 exact⟨fun ρ w' hW _=>⟨rfl,hW.toExt⟩⟩
theorem is_nil (w:World):Calls Try.prog 67 #[.pointer none] w fun e w'=>e = .returned (.bool false)∧Ext w w':=by
 refine Run.pB (tab:=tab) (pf:=[]) (cuts:=[]) mixed qI trivial Try.func67 rfl [.v (.pointer none)] 100 ⟨trivial,trivial⟩ rfl ?_
 conv=>whnf
 exact⟨fun ρ w' hW _=>⟨rfl,hW.toExt⟩⟩
def gL (M:Mem)(q e:Nat):Option Nat:=match M q with
 |some (.row e2 n _ _)=>if e2=e then some n else none
 |some (.rwin e2 n _)=>if e2=e then some n else none
 |_=>none
theorem rA {M M':Mem}{q e:Nat}(h:M' q=M q):gL M' q e=gL M q e:=by unfold gL;rw[h]
theorem rowLen_at {w0 w:World}{L:List (Nat×Nat)}{ρ:Env}{M:Mem}{S:Nat→Prop}(hW:WI w0 L ρ M S w){q e n:Nat}(h:gL M q e=some n):(ρ.h q).2.1=n:=by
 unfold gL at h
 split at h
 ·rename_i hM
  split at h
  ·obtain rfl:=Option.some.inj h
   obtain⟨_,_,hh⟩:=hW.mem _ _ hM
   rcases hh.2.2 with⟨h1,h2⟩|⟨cap,sp,h1,_⟩
   ·rw[h1,h2]
   ·rw[h1]
  ·cases h
 ·rename_i hM
  split at h
  ·obtain rfl:=Option.some.inj h
   obtain⟨_,_,hh⟩:=hW.mem _ _ hM
   exact hh.2.1
  ·cases h
 ·cases h
def FIs:Mem→List SV→Option (List Nat×SV):=fun M args=>match args with
 | [.ptr j 0]=>match M j with
  |some (.cells (_::_::_::_ :: .opq q::_) _)=>match gL M q 2 with
   |some n=>some ([j,q],.v (.bool (decide (0<(n:Int)))))
   |none=>none
  |_=>none
 | [.v (.pointer none)]=>some ([],.v (.bool false))
 |_=>none
theorem is_pure:Pure Try.prog 67 FIs where
 ent:=ent _ _ Try.func67 (by kernel_rfl) rfl
 sc S M args bs v hv _:=by
  unfold FIs at hv
  split at hv
  ·split at hv
   ·split at hv
    ·obtain⟨rfl,rfl⟩:=Prod.mk.inj (Option.some.inj hv);trivial
    ·cases hv
   ·cases hv
  ·obtain⟨rfl,rfl⟩:=Prod.mk.inj (Option.some.inj hv);trivial
  ·cases hv
 cong M M' args bs v hv hb:=by
  unfold FIs at hv ⊢
  split at hv
  ·rename_i j
   split at hv
   ·rename_i q r te hM
    split at hv
    ·rename_i n hn
     obtain⟨rfl,rfl⟩:=Prod.mk.inj (Option.some.inj hv)
     simp only[hb j (by simp),hM,rA (hb q (by simp)),hn]
    ·cases hv
   ·cases hv
  ·exact hv
  ·cases hv
 run w0 L ρ M S args bs v w hW hv:=by
  unfold FIs at hv
  split at hv
  ·rename_i j
   split at hv
   ·rename_i c0 c1 c2 c3 q r te hM
    split at hv
    ·rename_i n hn
     obtain⟨rfl,rfl⟩:=Prod.mk.inj (Option.some.inj hv)
     have hl:=rowLen_at hW hn
     obtain⟨_,_,ho,hh⟩:=hW.mem _ _ hM
     have:=is_at (ρ.s j) (c0.conc ρ) (c1.conc ρ) (c2.conc ρ) (c3.conc ρ) (ρ.h q).1 (ρ.h q).2.1 (ρ.h q).2.2 w (Array.getElem?_eq_some_iff.1 hh).1 (fun i x hx=>by
      unfold World.cell?
      rw[show(⟨ρ.s j,0+i,none⟩:Addr).block=ρ.s j from rfl,hh]
      have hi:i<5:=by have:=(List.getElem?_eq_some_iff.1 hx).1;simpa using this
      have:i=0∨i=1∨i=2∨i=3∨i=4:=by omega
      rcases this with rfl|rfl|rfl|rfl|rfl<;>simpa[SV.concs,SV.conc]using hx)
     rw[hl]at this
     show Calls _ _ #[.pointer (some ⟨ρ.s j,ρ.o j+0,none⟩)] _ _
     rw[ho]
     exact this
    ·cases hv
   ·cases hv
  ·obtain⟨rfl,rfl⟩:=Prod.mk.inj (Option.some.inj hv)
   exact is_nil w
  ·cases hv
theorem Net_spec (tk:SV)(inp:Int)(rg:Nat→SV)(N:List Prm)(S:List Syn)(st:List Ste)(m:List Mrk)(hsc:SV.scs (· < 24) (qH tk inp rg (.mp 7)))(hm:m.length=S.length)(hS:S.length≤8192)(hN:N.length≤1024)(hN1:1≤N.length) :
  BSpec Try.prog 28 [.ptr 0 0] (nowM (qH tk inp rg (.mp 7)) N S m++[(3,.rwin 2 N.length (st.flatMap fun s=>[.int .i64 s.v,.int .i64 s.rest]))]) 24 [0] (.tup [.agg [.opq 24,ii inp,.opq 25],ii 0])
   [(24,.row 8 N.length ((N.flatMap Prm.vals).map .v) 60),(25,.row 4 S.length ((jM S m).flatMap Syn.cells) 55),(0,.cells (qH tk inp rg (.mp 7)) 96)] 26:=by
 have hpf:PF.oks Try.prog [(67,FIs)]:=⟨is_pure,trivial⟩
 have hc :∀w L' rd,(∀p,rd=some p→p∈L')→Cx.ok ⟨Try.prog,tab,[(67,FIs)],28,Try.f28,[],w,L',rd⟩:=fun w L' rd h=>⟨qI,hpf,Try.func28,mixed,h⟩
 refine BSpec.start (tab:=tab) (pf:=[(67,FIs)]) (cuts:=[]) Try.func28 rfl ⟨ltb rfl,trivial⟩ rfl fun w L0 plp hL hLB hcov=>Run.r8 (hc w L0 none nofun) 100 _ ?_
 conv=>whnf
 rw[decide_eq_true (show(0:Int)<(N.length:Int)by omega)]
 conv=>whnf
 refine Run.pP (vs:=[.ptr 0 0]) (caps:=[]) (now_spec tk inp rg (.mp 7) N S m hsc hm hS hN) (ent _ _ Try.func53 (by kernel_rfl) rfl) rfl rfl rfl rfl rfl rfl rfl (by decide) (by decide) (by repeat first|exact trivial|refine⟨⟨by omega,hsc,⟨_,rfl,Conv.refl _⟩,.inr (by simp),fun h=>by cases h⟩,?_⟩|refine⟨⟨by omega,trivial,⟨_,rfl,Conv.refl _⟩,.inl rfl,fun _=>by simp⟩,?_⟩)
  (fun i hi=>by simp at hi;subst hi;exact⟨by omega,_,rfl⟩) (.agg [.opq 26,ii inp,.opq 27])
  [(26,.row 8 N.length ((N.flatMap Prm.vals).map .v) 60),(27,.row 4 S.length ((jM S m).flatMap Syn.cells) 55),(25,.cells [nq,ii 0,nq] 25),(24,.pin plp),(0,.cells (qH tk inp rg (.mp 7)) 96)] 28 rfl rfl
  ⟨.inr ⟨24,_,rfl,rfl,by rw[ofx (o:=.row 8 N.length ((N.flatMap Prm.vals).map .v) 60) (qR _ _)],rfl⟩,.inr ⟨25,_,rfl,rfl,by rw[ofx (o:=.row 4 S.length ((jM S m).flatMap Syn.cells) 55) (yC _ _)],rfl⟩,.inl ⟨rfl,by simp⟩,.inl ⟨rfl,by simp⟩,.inr ⟨0,_,rfl,rfl,by simp only[SObj.ren];rw[zU (fun i hi=>kI i hi) _ hsc],rfl⟩,trivial⟩ ?_
 refine Run.W2 hc ?_
 conv=>whnf
 refine SpecR.intro 26 (by decide) hLB (by decide) hcov rfl rfl ⟨⟨(show 24<26 by decide),trivial,ltb rfl,trivial⟩,trivial,trivial⟩ ⟨⟨?_,by omega,Os.h _⟩,⟨?_,by omega,Os.h _⟩,⟨?_,by omega,SV.pA (by decide) hsc⟩,trivial⟩
 ·rw[ofx (o:=.row 8 N.length ((N.flatMap Prm.vals).map .v) 60) (qR _ _)];rfl
 ·rw[ofx (o:=.row 4 S.length ((jM S m).flatMap Syn.cells) 55) (yC _ _)];rfl
 ·simp only[SObj.ren]
  rw[zU (fun i hi=>kI i hi) _ hsc];rfl
def Ste.vals (s:Ste):List Value:=[.int .i64 s.v,.int .i64 s.rest]
theorem steV (l:List Ste):l.flatMap Ste.cells=(l.flatMap Ste.vals).map .v:=by
 induction l with
 |nil=>rfl
 |cons a l ih=>rw[List.flatMap_cons,List.flatMap_cons,List.map_append,ih];rfl
theorem one_ste (l:List Ste) :∀u∈l.flatMap Ste.vals,u.oneCell'=true:=gJ (fun a u hu=>by
 simp only[Ste.vals,List.mem_cons,List.not_mem_nil,or_false]at hu
 rcases hu with rfl|rfl<;>rfl) l
theorem one_mrk (l:List Mrk) :∀u∈l.flatMap Mrk.vals,u.oneCell'=true:=gJ (fun a u hu=>by
 simp only[Mrk.vals,List.mem_cons,List.not_mem_nil,or_false]at hu
 rcases hu with rfl|rfl|rfl|rfl<;>rfl) l
theorem mk_states:Maker Try.prog 70 (FCl 2 139):=Maker.clone (by decide) (ent _ _ Try.func70 (by kernel_rfl) rfl) cloneStates
theorem mk_marks:Maker Try.prog 71 (FCl 4 84):=Maker.clone (by decide) (ent _ _ Try.func71 (by kernel_rfl) rfl) cloneMarks
abbrev pfCpy:PF:=[(67,FIs),(70+1000,FCl 2 139),(71+1000,FCl 4 84)]
theorem pfCpy_ok:PF.oks Try.prog pfCpy:=⟨is_pure,mk_states,mk_marks,trivial⟩
def ccells (tk:SV)(inp:Int)(rg:Nat→SV)(tt:SV):List SV:=[tk,.opq 1,ii inp,.opq 2,.opq 25,rg 0,rg 1,rg 2,rg 3,rg 4,rg 5,rg 6,rg 7,rg 8,rg 9,rg 10,rg 11,rg 12,rg 13,rg 14,rg 15,.opq 4,.opq 5,.opq 26,tt]
theorem Copy_spec (tk inp:Int)(N:List Prm)(pl:List Int)(st:List Ste)(m:List Mrk)(hN:N.length≤1024)(hN1:1≤N.length)(hS:pl.length≤8192) :
  BSpec Try.prog 30 [.ptr 0 0] [(0,.cells (qH (ii tk) inp (fun k=>.mp (8+k)) (.mp 7)) 96),(3,.rwin 2 N.length (st.flatMap Ste.vals)),(6,.rwin 4 pl.length (m.flatMap Mrk.vals))] 24 [0] (.ptr 24 0)
   [(24,.cells (ccells (ii tk) inp (fun k=>.mp (8+k)) (.mp 7)) 96),(25,.row 2 N.length (st.flatMap Ste.cells) 139),(26,.row 4 pl.length (m.flatMap Mrk.cells) 84),(0,.cells (qH (ii tk) inp (fun k=>.mp (8+k)) (.mp 7)) 96)] 27:=by
 have hc :∀w L' rd,(∀p,rd=some p→p∈L')→Cx.ok ⟨Try.prog,tab,pfCpy,30,Try.f30,[],w,L',rd⟩:=fun w L' rd h=>⟨qI,pfCpy_ok,Try.func30,mixed,h⟩
 refine BSpec.start (tab:=tab) (pf:=pfCpy) (cuts:=[]) Try.func30 rfl ⟨ltb rfl,trivial⟩ rfl fun w L0 plp hL hLB hcov=>Run.r8 (hc w L0 none nofun) 100 _ ?_
 conv=>whnf
 rw[decide_eq_true (show(0:Int)<(N.length:Int)by omega)]
 conv=>whnf
 refine Run.draw (hc w L0 none nofun) 11 ?_
 rw[show qD 0 11=qD 0 6++qD 6 5 from rfl]
 simp only[qN]
 conv=>whnf
 rw[xE (F:=FCl 2 139) rfl rfl rfl rfl rfl (uN rfl (by omega) (one_ste _))]
 conv=>whnf
 rw[xE (F:=FCl 4 84) rfl rfl rfl rfl rfl (uN rfl (by omega) (one_mrk _))]
 conv=>whnf
 refine⟨by kernel_rfl,?_⟩
 refine Run.W2 hc ?_
 conv=>whnf
 refine SpecR.pR (rq [(24,25),(25,31),(26,36)]) (fun i hi=>zC (qZ (B:=24) rfl hi)) ?_ (Widens.refl _ _) hLB (by decide) hcov rfl rfl (show 24<27 by decide) ?_
 ·intro i hi j hj hne
  have inj :∀i,i<27 → ∀j,j<27→i≠j→rq [(24,25),(25,31),(26,36)] i≠rq [(24,25),(25,31),(26,36)] j:=by decide
  exact inj i hi j hj hne
 ·refine⟨⟨rfl,by omega,by simp[ccells,SObj.sc,SV.scs,SV.sc]⟩,⟨?_,by omega,Os.h _⟩,⟨?_,by omega,Os.h _⟩,⟨rfl,by omega,qC _ rfl⟩,trivial⟩
  ·rw[ofx (o:=.row 2 N.length (st.flatMap Ste.cells) 139) (qQ _ _),steV];rfl
  ·rw[ofx (o:=.row 4 pl.length (m.flatMap Mrk.cells) 84) (qF _ _),xU];rfl
set_option maxHeartbeats 8000000
def FS1_v:List SV→Option SV
 | [.v (.int .i64 a)]=>some (.v (.bool !wi a (-128) 127))
 |_=>none
theorem step1_pure : Pure Try.prog 69 (zV FS1_v) := PureV.lift
  { ent := ent _ _ Try.func69 (by kernel_rfl) rfl
    sc := fun S args v hv _ => by
      unfold FS1_v at hv
      split at hv
      · obtain rfl := Option.some.inj hv; trivial
      · cases hv
    run := fun ρ args v w hv => by
      unfold FS1_v at hv
      split at hv
      · rename_i a
        obtain rfl := Option.some.inj hv
        refine Run.pB (tab := tab) (pf := pfl1) (cuts := []) mixed qI tQ Try.func69 rfl [ii a] 100 ⟨trivial, trivial⟩ rfl ?_
        conv => whnf
        exact ⟨fun ρ w' hW _ => ⟨rfl, hW.toExt⟩⟩
      · cases hv }
def rwF (l:List Int)(i:Nat):Int:=if wi (l.getD i 0) (-128) 127 then 0 else(i:Int)+1
def rwIx (l:List Int):Int:=jR (rwF l) (List.range l.length)-1
def kO (l:List Int):Bool:=decide (0≤rwIx l)
theorem rwIx_at {l:List Int}{i:Nat}(hi:i<l.length)(h0 :∀j,j<l.length→j<i→rwF l j=0)(h:wi (l.getD i 0) (-128) 127=false):rwIx l=(i:Int):=by
 have e:rwF l i=(i:Int)+1:=by unfold rwF;rw[h];rfl
 unfold rwIx
 rw[xC hi h0 (by rw[e];omega),e];omega
theorem rwIx_no {l:List Int}(h0 :∀j,j<l.length→rwF l j=0):rwIx l = -1:=by
 unfold rwIx
 rw[uT h0];rfl
theorem rwBad_ok {l:List Int}(h:kO l=false) :∀x∈l,-128≤x∧x≤127:=by
 intro x hx
 obtain⟨i,hi,rfl⟩:=List.getElem_of_mem hx
 have h1:rwIx l<0:=by unfold kO at h;simpa using h
 have hn :∀k,(∀j,j<l.length→j<k→rwF l j=0)→k≤l.length→(k=l.length∨rwF l k=0):=fun k hk hkl=>by
  by_cases e:k=l.length
  ·exact .inl e
  ·by_cases e2:wi (l.getD k 0) (-128) 127=true
   ·right;unfold rwF;rw[if_pos e2]
   ·have:=rwIx_at (l:=l) (i:=k) (by omega) hk (by simpa using e2)
    omega
 have all :∀k,k≤l.length → ∀j,j<l.length→j<k→rwF l j=0:=by
  intro k
  induction k with
  |zero=>intro _ j _ hj;omega
  |succ k ih=>
   intro hk j hj hjk
   by_cases e:j=k
   ·subst e
    rcases hn j (ih (by omega)) (by omega)with h|h
    ·omega
    ·exact h
   ·exact ih (by omega) j hj (by omega)
 have h2:=all l.length (Nat.le_refl _) i hi hi
 unfold rwF at h2
 split at h2
 ·rename_i h3
  have:=wi_iff.1 h3
  simpa[List.getD_eq_getElem?_getD,hi]using this
 ·omega
theorem index_run (v:Value)(l:List Int)(w:World)(hr:RowsAt w v 1 l.length (qB l))(hl:l.length<4611686018427387904) :
  Calls Try.prog 95 #[v,.func (.func 69) #[] #[]] w fun e w'=>e = .returned (.int .i64 (rwIx l))∧Ext w w':=by
 have hpf:PF.oks Try.prog [(69,zV FS1_v)]:=⟨step1_pure,trivial⟩
 have hc:Cx.ok ⟨Try.prog,tab,[(69,zV FS1_v)],95,Try.f95,[],w,[],none⟩:=⟨qI,hpf,Try.func95,mixed,fun _ h=>by cases h⟩
 have hrows:AllP (fun x:Value×Nat×Nat×List Value=>RowsAt w x.1 x.2.1 x.2.2.1 x.2.2.2) [(v,1,l.length,qB l)]:=⟨hr,trivial⟩
 refine Run.pH (tab:=tab) (pf:=[(69,zV FS1_v)]) (cuts:=[]) Try.func95 rfl _ hrows [.opq 0,.v (.func (.func 69) #[] #[])] [v,.func (.func 69) #[] #[]] [(0,.rwin 1 l.length (qB l))] 1 rfl rfl
  (by show [(SV.opq 0).conc _,_]=_;rw[qS hrows (k:=0) rfl];rfl) ⟨(show 0<1 by decide),trivial,trivial⟩ rfl (Run.r8 hc 100 _ ?_)
 conv=>whnf
 refine Run.lJ (T:=fun i=>[(0,.opq 0),(1,.v (.func (.func 69) #[] #[])),(6,.opq 0),(7,ii (l.length:Int)),(8,ii ((i:Nat):Int))]) (M:=fun i=>[(0,.rwin 1 l.length (qB l))]) 1 (fun i=> ∀j,j<l.length→j<i→rwF l j=0) (l.length) ⟨⟨rfl,ltb rfl⟩,⟨rfl,trivial⟩,⟨rfl,ltb rfl⟩,⟨rfl,trivial⟩,⟨rfl,trivial⟩,trivial⟩ ⟨⟨rfl,(ltb rfl),trivial⟩,trivial⟩ (fun p hp=>by cases hp) ?_ ?_ ?_
 ·exact fun j _ h=>by omega
 ·intro i hi hJ ih
  refine Run.W1 hc ?_
  conv=>whnf
  rw[decide_eq_true (show((i:Nat):Int)<(l.length:Int)by omega)]
  conv=>whnf
  refine⟨by omega,?_⟩
  conv=>whnf
  rw[qY i rfl rfl rfl rfl (by rw[qE,Nat.mul_one]) (zA hi)]
  conv=>whnf
  cases hb:wi l[i] (-128) 127
  case false=>
   conv=>whnf
   exact⟨fun ρ w' hW _=>⟨by rw[rwIx_at hi hJ (by simpa[List.getD_eq_getElem?_getD,hi]using hb)];rfl,hW.toExt⟩⟩
  conv=>whnf
  exact Run.tH (ih (upN hJ (by unfold rwF;rw[show l.getD i 0=l[i]by simp[List.getD_eq_getElem?_getD,hi],hb];rfl))) ⟨⟨rfl,ltb rfl⟩,⟨rfl,trivial⟩,⟨rfl,ltb rfl⟩,⟨rfl,trivial⟩,⟨wsx (by omega),trivial⟩,trivial⟩ ⟨⟨rfl,(ltb rfl),trivial⟩,trivial⟩ (fun p hp=>by cases hp)
 ·intro hJ
  refine Run.W1 hc ?_
  conv=>whnf
  rw[decide_eq_false (show ¬((l.length:Nat):Int)<(l.length:Int)by omega)]
  conv=>whnf
  exact⟨fun ρ w' hW _=>⟨by rw[rwIx_no fun j hj=>hJ j hj hj];rfl,hW.toExt⟩⟩
theorem sP (v:Value)(l:List Int)(w:World)(hr:RowsAt w v 1 l.length (qB l))(hl:l.length<4611686018427387904) :
  Calls Try.prog 68 #[v,.func (.func 69) #[] #[]] w fun e w'=>e = .returned (.bool (kO l))∧Ext w w':=by
 have hc:Cx.ok ⟨Try.prog,tab,[],68,Try.f68,[],w,[],none⟩:=⟨qI,trivial,Try.func68,mixed,fun _ h=>by cases h⟩
 have hrows:AllP (fun x:Value×Nat×Nat×List Value=>RowsAt w x.1 x.2.1 x.2.2.1 x.2.2.2) [(v,1,l.length,qB l)]:=⟨hr,trivial⟩
 refine Run.pH (tab:=tab) (pf:=[]) (cuts:=[]) Try.func68 rfl _ hrows [.opq 0,.v (.func (.func 69) #[] #[])] [v,.func (.func 69) #[] #[]] [(0,.rwin 1 l.length (qB l))] 1 rfl rfl
  (by show [(SV.opq 0).conc _,_]=_;rw[qS hrows (k:=0) rfl];rfl) ⟨(show 0<1 by decide),trivial,trivial⟩ rfl (Run.r8 hc 100 _ ?_)
 conv=>whnf
 refine Run.pD (g:=95) (vs:=[.opq 0,.v (.func (.func 69) #[] #[])]) (caps:=[]) (ii (rwIx l)) (fun ρ w1 hW=>index_run _ l w1 (hW.rowsAt rfl) hl) (ent _ _ Try.func95 (by kernel_rfl) rfl) rfl rfl rfl rfl rfl rfl rfl trivial ?_
 refine Run.r8 hc 100 _ ?_
 conv=>whnf
 exact⟨fun ρ w' hW _=>⟨rfl,hW.toExt⟩⟩
def jZ (inp:Int)(l:List Int)(i:Nat):Int:=if wi (l.getD i 0) 0 (W (inp-1))=false then 3 else if 0<i∧l.getD i 0≤l.getD (i-1) 0 then 2 else 0
def j6 (inp:Int)(l:List Int):Int:=jR (jZ inp l) (List.range l.length)
def kB (R:Nat)(l:List Int):Int:=if (l.length:Int)=0 then 0 else if (l.length:Int)≠(R:Int)then 13 else if kO l=true then 3 else 0
def jX (x:Lnt)(s:Lst)(ins rw0:List Int):Int:=if 10000≤s.tick then 8 else if j6 x.n.inp ins≠0 then j6 x.n.inp ins else kB x.rs.length rw0
def j9 (R:Nat)(l:List Int):List Int:=if (l.length:Int)=0 then List.replicate R 0 else l
theorem wS {x:Lnt}{s:Lst}{ins rw0:List Int}(h:jX x s ins rw0=0):s.tick<10000∧j6 x.n.inp ins=0∧kB x.rs.length rw0=0:=by
 unfold jX at h
 split at h
 ·cases h
 split at h
 ·rename_i h1;exact absurd h h1
 ·rename_i h1 h2;exact⟨by omega,by simpa using h2,h⟩
theorem sF {R:Nat}{l:List Int}(h:kB R l=0):(j9 R l).length=R:=by
 unfold j9
 unfold kB at h
 split at h
 ·rename_i h1;rw[if_pos h1,List.length_replicate]
 ·rename_i h1
  rw[if_neg h1]
  split at h
  ·cases h
  ·omega
abbrev pfStp:PF:=[(67,FIs),(44,F3 fun n lo hi=>.bool (wi n lo hi))]
theorem pfStp_ok:PF.oks Try.prog pfStp:=⟨is_pure,kF,trivial⟩
theorem Step_bad (x:Lnt)(s:Lst)(ins rw0:List Int)(e:Int)(hx:NetOK x)(he:jX x s ins rw0=e)(hne:e≠0)(hin:ins.length<4611686018427387904)(hrw:rw0.length<4611686018427387904) :
  BSpec Try.prog 27 [.ptr 0 0,.opq 24,.opq 25] (lM x (lC x s) s++[(24,.rwin 1 ins.length (qB ins)),(25,.rwin 1 rw0.length (qB rw0))]) 26 [0,3,6] (.tup [nq,ii e]) [(0,.cells (qH (ii s.tick) x.n.inp (fun k=>.mp (8+k)) (.mp 7)) 96),(3,.row 2 x.n.N.length (s.st.flatMap Ste.cells) 139),(6,.row 4 x.pl.length (s.m.flatMap Mrk.cells) 84)] 26:=by
 have hN1:=hx.N1
 have hinp0:=hx.inp0
 have hinp1:=hx.inp1
 have hRl:=hx.rl
 have hc :∀w L' rd,(∀p,rd=some p→p∈L')→Cx.ok ⟨Try.prog,tab,pfStp,27,Try.f27,[],w,L',rd⟩:=fun w L' rd h=>⟨qI,pfStp_ok,Try.func27,mixed,h⟩
 refine BSpec.start (tab:=tab) (pf:=pfStp) (cuts:=[]) Try.func27 rfl ⟨(show 0<26 by decide),(show 24<26 by decide),ltb rfl,trivial⟩ rfl fun w L0 plp hL hLB hcov=>Run.r8 (hc w L0 none nofun) 100 _ ?_
 conv=>whnf
 rw[decide_eq_true (show(0:Int)<(x.n.N.length:Int)by omega)]
 conv=>whnf
 by_cases hlt:10000≤s.tick
 ·obtain rfl:e=8:=by rw[←he];unfold jX;rw[if_pos hlt]
  rw[show decide ((10000:Int)≤s.tick)=true by simpa using hlt]
  conv=>whnf
  exact SpecR.intro 27 (by decide) hLB (by decide) hcov rfl rfl ⟨trivial,trivial,trivial⟩ ⟨⟨rfl,by omega,qC _ rfl⟩,⟨by rw[ofx (o:=.row 2 x.n.N.length (s.st.flatMap Ste.cells) 139) (qQ _ _)];rfl,by omega,Os.h _⟩,⟨by rw[ofx (o:=.row 4 x.pl.length (s.m.flatMap Mrk.cells) 84) (qF _ _)];rfl,by omega,Os.h _⟩,trivial⟩
 rw[show decide ((10000:Int)≤s.tick)=false by simpa using hlt]
 conv=>whnf
 refine Run.lJ (T:=fun i=>[(0,.ptr 0 0),(1,.opq 24),(2,.opq 25),(21,.opq 24),(22,ii (ins.length:Int)),(23,ii ((i:Nat):Int))]) (M:=fun i=>[(26,.pin plp),(0,.cells (qH (ii s.tick) x.n.inp (fun k=>.mp (8+k)) (.mp 7)) 96),(1,.rwin 8 x.n.N.length (x.n.N.flatMap Prm.vals)),(2,.rwin 4 x.n.S.length (x.n.S.flatMap Syn.vals)),(3,.row 2 x.n.N.length (s.st.flatMap Ste.cells) 139),(4,.rwin 10 x.rs.length (x.rs.flatMap Rul.vals)),(5,.rwin 1 x.pl.length (qB x.pl)),(6,.row 4 x.pl.length (s.m.flatMap Mrk.cells) 84),(7,.kwin true x.tot),(8,.kwin false (qA (s.sm 0))),(9,.kwin false (qA (s.sm 1))),(10,.kwin false (qA (s.sm 2))),(11,.kwin false (qA (s.sm 3))),(12,.kwin false (qA (s.sm 4))),(13,.kwin false (qA (s.sm 5))),(14,.kwin false (qA (s.sm 6))),(15,.kwin false (qA (s.sm 7))),(16,.kwin false (qA (s.sm 8))),(17,.kwin false (qA (s.sm 9))),(18,.kwin false (qA (s.sm 10))),(19,.kwin false (qA (s.sm 11))),(20,.kwin false (qA (s.sm 12))),(21,.kwin false (qA (s.sm 13))),(22,.kwin false (qA (s.sm 14))),(23,.kwin false (qA (s.sm 15))),(24,.rwin 1 ins.length (qB ins)),(25,.rwin 1 rw0.length (qB rw0))]) 27 (fun i=> ∀j,j<ins.length→j<i→jZ x.n.inp ins j=0) (ins.length) ⟨⟨rfl,ltb rfl⟩,⟨rfl,ltb rfl⟩,⟨rfl,ltb rfl⟩,⟨rfl,ltb rfl⟩,⟨rfl,trivial⟩,⟨rfl,trivial⟩,trivial⟩ (by repeat first|exact trivial|refine⟨⟨rfl,by omega,pnx hcov rfl⟩,?_⟩|refine⟨⟨rfl,by omega,qC _ rfl⟩,?_⟩|refine⟨⟨rfl,by omega,Os.h _⟩,?_⟩) (lbx hLB rfl) ?_ ?_ ?_
 ·exact fun j _ h=>by omega
 ·intro i hi hJ ih
  refine Run.W2 hc ?_
  conv=>whnf
  rw[decide_eq_true (show((i:Nat):Int)<(ins.length:Int)by omega)]
  conv=>whnf
  refine⟨by omega,?_⟩
  conv=>whnf
  rw[qY i rfl rfl rfl rfl (by rw[qE,Nat.mul_one]) (zA hi)]
  conv=>whnf
  have hgi:ins.getD i 0=ins[i]:=by simp[List.getD_eq_getElem?_getD,hi]
  cases hb:wi ins[i] 0 (IntKind.i64.wrap (x.n.inp-1))
  case false=>
   have hat:jZ x.n.inp ins i=3:=by unfold jZ;rw[hgi,show wi ins[i] 0 (W (x.n.inp-1))=false from hb];rfl
   have hck:j6 x.n.inp ins=3:=by unfold j6;rw[xC hi hJ (by rw[hat];decide),hat]
   obtain rfl:e=3:=by rw[←he];unfold jX;rw[if_neg hlt,hck];rfl
   conv=>whnf
   exact SpecR.intro 27 (by decide) hLB (by decide) hcov rfl rfl ⟨trivial,trivial,trivial⟩ ⟨⟨rfl,by omega,qC _ rfl⟩,⟨by rw[ofx (o:=.row 2 x.n.N.length (s.st.flatMap Ste.cells) 139) (qQ _ _)];rfl,by omega,Os.h _⟩,⟨by rw[ofx (o:=.row 4 x.pl.length (s.m.flatMap Mrk.cells) 84) (qF _ _)];rfl,by omega,Os.h _⟩,trivial⟩
  have hb2:wi ins[i] 0 (W (x.n.inp-1))=true:=hb
  conv=>whnf
  by_cases hi0:i=0
  ·subst hi0
   conv=>whnf
   have hat:jZ x.n.inp ins 0=0:=by unfold jZ;rw[hgi,hb2];simp only[Bool.true_eq_false,if_false];rw[if_neg (fun h=>absurd h.1 (by decide))]
   exact Run.tH (ih (upN hJ hat)) ⟨⟨rfl,ltb rfl⟩,⟨rfl,ltb rfl⟩,⟨rfl,ltb rfl⟩,⟨rfl,ltb rfl⟩,⟨rfl,trivial⟩,⟨wsx (by omega),trivial⟩,trivial⟩ (by repeat first|exact trivial|refine⟨⟨rfl,by omega,pnx hcov rfl⟩,?_⟩|refine⟨⟨rfl,by omega,qC _ rfl⟩,?_⟩|refine⟨⟨rfl,by omega,Os.h _⟩,?_⟩) (lbx hLB rfl)
  have hw1:IntKind.i64.wrap ((i:Int)-1)=((i-1:Nat):Int):=by
   rw[show(i:Int)-1=((i-1:Nat):Int)by omega]
   exact zL (by omega) (by omega)
  rw[show decide ((0:Int)<((i:Nat):Int))=true by rw[decide_eq_true_eq];omega]
  conv=>whnf
  refine⟨by show 0≤IntKind.i64.wrap ((i:Int)-1)∧IntKind.i64.wrap ((i:Int)-1)<(ins.length:Int);rw[hw1];omega,?_⟩
  conv=>whnf
  rw[qY (i-1) rfl rfl rfl rfl (by show idx (IntKind.i64.wrap ((i:Int)-1)) 1=_;rw[hw1];rfl) (zA (by omega))]
  conv=>whnf
  have hgp:ins.getD (i-1) 0=ins[i-1]:=by simp[List.getD_eq_getElem?_getD,show i-1<ins.length by omega]
  cases hq:decide (ins[i]≤ins[i-1])
  case true=>
   have hat:jZ x.n.inp ins i=2:=by unfold jZ;rw[hgi,hgp,hb2];simp only[Bool.true_eq_false,if_false];rw[if_pos ⟨by omega,of_decide_eq_true hq⟩]
   have hck:j6 x.n.inp ins=2:=by unfold j6;rw[xC hi hJ (by rw[hat];decide),hat]
   obtain rfl:e=2:=by rw[←he];unfold jX;rw[if_neg hlt,hck];rfl
   conv=>whnf
   exact SpecR.intro 27 (by decide) hLB (by decide) hcov rfl rfl ⟨trivial,trivial,trivial⟩ ⟨⟨rfl,by omega,qC _ rfl⟩,⟨by rw[ofx (o:=.row 2 x.n.N.length (s.st.flatMap Ste.cells) 139) (qQ _ _)];rfl,by omega,Os.h _⟩,⟨by rw[ofx (o:=.row 4 x.pl.length (s.m.flatMap Mrk.cells) 84) (qF _ _)];rfl,by omega,Os.h _⟩,trivial⟩
  have hat:jZ x.n.inp ins i=0:=by unfold jZ;rw[hgi,hgp,hb2];simp only[Bool.true_eq_false,if_false];rw[if_neg (fun h=>of_decide_eq_false hq h.2)]
  conv=>whnf
  exact Run.tH (ih (upN hJ hat)) ⟨⟨rfl,ltb rfl⟩,⟨rfl,ltb rfl⟩,⟨rfl,ltb rfl⟩,⟨rfl,ltb rfl⟩,⟨rfl,trivial⟩,⟨wsx (by omega),trivial⟩,trivial⟩ (by repeat first|exact trivial|refine⟨⟨rfl,by omega,pnx hcov rfl⟩,?_⟩|refine⟨⟨rfl,by omega,qC _ rfl⟩,?_⟩|refine⟨⟨rfl,by omega,Os.h _⟩,?_⟩) (lbx hLB rfl)
 ·intro hJ
  refine Run.W2 hc ?_
  conv=>whnf
  rw[decide_eq_false (show ¬((ins.length:Nat):Int)<(ins.length:Int)by omega)]
  conv=>whnf
  have hins:j6 x.n.inp ins=0:=by unfold j6;exact uT fun j hj=>hJ j hj hj
  have he2:kB x.rs.length rw0=e:=by rw[←he];unfold jX;rw[if_neg hlt,hins];rfl
  cases hz:((rw0.length:Int)==0)
  case true=>exact absurd (by rw[←he2];unfold kB;rw[if_pos (by simpa using hz)]) hne
  conv=>whnf
  cases hz2:((rw0.length:Int) != (x.rs.length:Int))
  case true=>
   obtain rfl:e=13:=by rw[←he2];unfold kB;rw[if_neg (by simpa using hz),if_pos (by simpa using hz2)]
   conv=>whnf
   exact SpecR.intro 27 (by decide) hLB (by decide) hcov rfl rfl ⟨trivial,trivial,trivial⟩ ⟨⟨rfl,by omega,qC _ rfl⟩,⟨by rw[ofx (o:=.row 2 x.n.N.length (s.st.flatMap Ste.cells) 139) (qQ _ _)];rfl,by omega,Os.h _⟩,⟨by rw[ofx (o:=.row 4 x.pl.length (s.m.flatMap Mrk.cells) 84) (qF _ _)];rfl,by omega,Os.h _⟩,trivial⟩
  conv=>whnf
  refine Run.pD (g:=68) (vs:=[.opq 25,.v (.func (.func 69) #[] #[])]) (caps:=[]) (.v (.bool (kO rw0))) (fun ρ w1 hW=>sP _ rw0 w1 (hW.rowsAt rfl) hrw) (ent _ _ Try.func68 (by kernel_rfl) rfl) rfl rfl rfl rfl rfl rfl rfl trivial ?_
  have hz3:kB x.rs.length rw0=if kO rw0=true then 3 else 0:=by unfold kB;rw[if_neg (by simpa using hz),if_neg (by simpa using hz2)]
  cases hbd:kO rw0
  case false=>exact absurd (by rw[←he2,hz3,hbd];rfl) hne
  obtain rfl:e=3:=by rw[←he2,hz3,hbd];rfl
  refine Run.W2 hc ?_
  conv=>whnf
  exact SpecR.intro 27 (by decide) hLB (by decide) hcov rfl rfl ⟨trivial,trivial,trivial⟩ ⟨⟨rfl,by omega,qC _ rfl⟩,⟨by rw[ofx (o:=.row 2 x.n.N.length (s.st.flatMap Ste.cells) 139) (qQ _ _)];rfl,by omega,Os.h _⟩,⟨by rw[ofx (o:=.row 4 x.pl.length (s.m.flatMap Mrk.cells) 84) (qF _ _)];rfl,by omega,Os.h _⟩,trivial⟩
theorem Step_ok (x:Lnt)(s:Lst)(ins rw0:List Int)(hx:NetOK x)(h:LInv x s)(he:jX x s ins rw0=0)(hin:ins.length<4611686018427387904)(hrw:rw0.length<4611686018427387904) :
  BSpec Try.prog 27 [.ptr 0 0,.opq 24,.opq 25] (lM x (lC x s) s++[(24,.rwin 1 ins.length (qB ins)),(25,.rwin 1 rw0.length (qB rw0))]) 26 [0,3,6] (.tup [.opq 27,ii 0])
   [(26,.kmap false true (qA (lN x s ins (j9 x.rs.length rw0) |>.sm (z6 s.tick)))),(27,.row 1 (zQ x s).length ((zQ x s).map fun x=>ii x) 3),(0,.cells (qH (ii (W (s.tick+1))) x.n.inp (fun j=>.mp (if j=z6 s.tick then 26 else 8+j)) (.mp 7)) 96),(3,.row 2 x.n.N.length ((lN x s ins (j9 x.rs.length rw0)).st.flatMap Ste.cells) 139),(6,.row 4 x.pl.length ((lN x s ins (j9 x.rs.length rw0)).m.flatMap Mrk.cells) 84)] 28:=by
 obtain⟨hlt,hins,hrc⟩:=wS he
 have ht0:=h.t0
 have hN1:=hx.N1
 have hinp0:=hx.inp0
 have hinp1:=hx.inp1
 have hRl:=hx.rl
 have hc :∀w L' rd,(∀p,rd=some p→p∈L')→Cx.ok ⟨Try.prog,tab,pfStp,27,Try.f27,[],w,L',rd⟩:=fun w L' rd h=>⟨qI,pfStp_ok,Try.func27,mixed,h⟩
 refine BSpec.start (tab:=tab) (pf:=pfStp) (cuts:=[]) Try.func27 rfl ⟨(show 0<26 by decide),(show 24<26 by decide),ltb rfl,trivial⟩ rfl fun w L0 plp hL hLB hcov=>Run.r8 (hc w L0 none nofun) 100 _ ?_
 conv=>whnf
 rw[decide_eq_true (show(0:Int)<(x.n.N.length:Int)by omega)]
 conv=>whnf
 rw[show decide ((10000:Int)≤s.tick)=false by simpa using hlt]
 conv=>whnf
 refine Run.lJ (T:=fun i=>[(0,.ptr 0 0),(1,.opq 24),(2,.opq 25),(21,.opq 24),(22,ii (ins.length:Int)),(23,ii ((i:Nat):Int))]) (M:=fun i=>[(26,.pin plp),(0,.cells (qH (ii s.tick) x.n.inp (fun k=>.mp (8+k)) (.mp 7)) 96),(1,.rwin 8 x.n.N.length (x.n.N.flatMap Prm.vals)),(2,.rwin 4 x.n.S.length (x.n.S.flatMap Syn.vals)),(3,.row 2 x.n.N.length (s.st.flatMap Ste.cells) 139),(4,.rwin 10 x.rs.length (x.rs.flatMap Rul.vals)),(5,.rwin 1 x.pl.length (qB x.pl)),(6,.row 4 x.pl.length (s.m.flatMap Mrk.cells) 84),(7,.kwin true x.tot),(8,.kwin false (qA (s.sm 0))),(9,.kwin false (qA (s.sm 1))),(10,.kwin false (qA (s.sm 2))),(11,.kwin false (qA (s.sm 3))),(12,.kwin false (qA (s.sm 4))),(13,.kwin false (qA (s.sm 5))),(14,.kwin false (qA (s.sm 6))),(15,.kwin false (qA (s.sm 7))),(16,.kwin false (qA (s.sm 8))),(17,.kwin false (qA (s.sm 9))),(18,.kwin false (qA (s.sm 10))),(19,.kwin false (qA (s.sm 11))),(20,.kwin false (qA (s.sm 12))),(21,.kwin false (qA (s.sm 13))),(22,.kwin false (qA (s.sm 14))),(23,.kwin false (qA (s.sm 15))),(24,.rwin 1 ins.length (qB ins)),(25,.rwin 1 rw0.length (qB rw0))]) 27 (fun i=> ∀j,j<ins.length→j<i→jZ x.n.inp ins j=0) (ins.length) ⟨⟨rfl,ltb rfl⟩,⟨rfl,ltb rfl⟩,⟨rfl,ltb rfl⟩,⟨rfl,ltb rfl⟩,⟨rfl,trivial⟩,⟨rfl,trivial⟩,trivial⟩ (by repeat first|exact trivial|refine⟨⟨rfl,by omega,pnx hcov rfl⟩,?_⟩|refine⟨⟨rfl,by omega,qC _ rfl⟩,?_⟩|refine⟨⟨rfl,by omega,Os.h _⟩,?_⟩) (lbx hLB rfl) ?_ ?_ ?_
 ·exact fun j _ h=>by omega
 ·intro i hi hJ ih
  refine Run.W2 hc ?_
  conv=>whnf
  rw[decide_eq_true (show((i:Nat):Int)<(ins.length:Int)by omega)]
  conv=>whnf
  refine⟨by omega,?_⟩
  conv=>whnf
  rw[qY i rfl rfl rfl rfl (by rw[qE,Nat.mul_one]) (zA hi)]
  conv=>whnf
  have hgi:ins.getD i 0=ins[i]:=by simp[List.getD_eq_getElem?_getD,hi]
  cases hb:wi ins[i] 0 (IntKind.i64.wrap (x.n.inp-1))
  case false=>
   have hat:jZ x.n.inp ins i=3:=by unfold jZ;rw[hgi,show wi ins[i] 0 (W (x.n.inp-1))=false from hb];rfl
   have hck:j6 x.n.inp ins=3:=by unfold j6;rw[xC hi hJ (by rw[hat];decide),hat]
   exact absurd (hck.symm.trans hins) (by decide)
  have hb2:wi ins[i] 0 (W (x.n.inp-1))=true:=hb
  conv=>whnf
  by_cases hi0:i=0
  ·subst hi0
   conv=>whnf
   have hat:jZ x.n.inp ins 0=0:=by unfold jZ;rw[hgi,hb2];simp only[Bool.true_eq_false,if_false];rw[if_neg (fun h=>absurd h.1 (by decide))]
   exact Run.tH (ih (upN hJ hat)) ⟨⟨rfl,ltb rfl⟩,⟨rfl,ltb rfl⟩,⟨rfl,ltb rfl⟩,⟨rfl,ltb rfl⟩,⟨rfl,trivial⟩,⟨wsx (by omega),trivial⟩,trivial⟩ (by repeat first|exact trivial|refine⟨⟨rfl,by omega,pnx hcov rfl⟩,?_⟩|refine⟨⟨rfl,by omega,qC _ rfl⟩,?_⟩|refine⟨⟨rfl,by omega,Os.h _⟩,?_⟩) (lbx hLB rfl)
  have hw1:IntKind.i64.wrap ((i:Int)-1)=((i-1:Nat):Int):=by
   rw[show(i:Int)-1=((i-1:Nat):Int)by omega]
   exact zL (by omega) (by omega)
  rw[show decide ((0:Int)<((i:Nat):Int))=true by rw[decide_eq_true_eq];omega]
  conv=>whnf
  refine⟨by show 0≤IntKind.i64.wrap ((i:Int)-1)∧IntKind.i64.wrap ((i:Int)-1)<(ins.length:Int);rw[hw1];omega,?_⟩
  conv=>whnf
  rw[qY (i-1) rfl rfl rfl rfl (by show idx (IntKind.i64.wrap ((i:Int)-1)) 1=_;rw[hw1];rfl) (zA (by omega))]
  conv=>whnf
  have hgp:ins.getD (i-1) 0=ins[i-1]:=by simp[List.getD_eq_getElem?_getD,show i-1<ins.length by omega]
  cases hq:decide (ins[i]≤ins[i-1])
  case true=>
   have hat:jZ x.n.inp ins i=2:=by unfold jZ;rw[hgi,hgp,hb2];simp only[Bool.true_eq_false,if_false];rw[if_pos ⟨by omega,of_decide_eq_true hq⟩]
   have hck:j6 x.n.inp ins=2:=by unfold j6;rw[xC hi hJ (by rw[hat];decide),hat]
   exact absurd (hck.symm.trans hins) (by decide)
  have hat:jZ x.n.inp ins i=0:=by unfold jZ;rw[hgi,hgp,hb2];simp only[Bool.true_eq_false,if_false];rw[if_neg (fun h=>of_decide_eq_false hq h.2)]
  conv=>whnf
  exact Run.tH (ih (upN hJ hat)) ⟨⟨rfl,ltb rfl⟩,⟨rfl,ltb rfl⟩,⟨rfl,ltb rfl⟩,⟨rfl,ltb rfl⟩,⟨rfl,trivial⟩,⟨wsx (by omega),trivial⟩,trivial⟩ (by repeat first|exact trivial|refine⟨⟨rfl,by omega,pnx hcov rfl⟩,?_⟩|refine⟨⟨rfl,by omega,qC _ rfl⟩,?_⟩|refine⟨⟨rfl,by omega,Os.h _⟩,?_⟩) (lbx hLB rfl)
 ·intro hJ
  refine Run.W2 hc ?_
  conv=>whnf
  rw[decide_eq_false (show ¬((ins.length:Nat):Int)<(ins.length:Int)by omega)]
  conv=>whnf
  have hlr:=sF hrc
  have hstep:=lstep_spec hx h (by omega) ins (j9 x.rs.length rw0) hin hlr
  cases hz:((rw0.length:Int)==0)
  case true=>
   have hro:j9 x.rs.length rw0=List.replicate x.rs.length 0:=by unfold j9;rw[if_pos (by simpa using hz)]
   conv=>whnf
   rw[kK (m:=x.rs.length) rfl rfl rfl rfl rfl rfl (by omega) (by omega),show List.replicate x.rs.length (SV.v (.int .i64 0))=(j9 x.rs.length rw0).map fun x=>ii x by rw[hro,List.map_replicate]]
   conv=>whnf
   refine Run.pM (vs:=[.ptr 0 0,.opq 24,.opq 25]) (caps:=[]) (caps2:=[]) hstep (ent _ _ Try.func52 (by kernel_rfl) rfl) rfl rfl rfl rfl rfl rfl [.ptr 0 0,.opq 24,.opq 27] rfl (rq [(25,27),(27,25)]) rfl (fun q hq=>by have inv :∀q,q<26→rq [(25,27),(27,25)] q<28:=(by decide);exact inv q hq) (fun q hq j hj hne=>by have inj :∀i,i<26 → ∀j,j<26→i≠j→rq [(25,27),(27,25)] i≠rq [(25,27),(27,25)] j:=(by decide);exact inj q hq j hj hne) (by decide) (by repeat first|exact trivial|refine⟨⟨by omega,trivial,⟨_,rfl,Conv.refl _⟩,.inl rfl,fun _=>by simp⟩,?_⟩|refine⟨⟨by omega,qQ _ _,⟨_,rfl,by rw[ofx (o:=.row 2 x.n.N.length (s.st.flatMap Ste.cells) 139) (qQ _ _)];exact Conv.refl _⟩,.inr (by simp),fun h=>by cases h⟩,?_⟩|refine⟨⟨by omega,qF _ _,⟨_,rfl,by rw[ofx (o:=.row 4 x.pl.length (s.m.flatMap Mrk.cells) 84) (qF _ _)];exact Conv.refl _⟩,.inr (by simp),fun h=>by cases h⟩,?_⟩|refine⟨⟨by omega,trivial,⟨_,rfl,by rw[hlr];exact Conv.row (by decide) (wV _)⟩,.inl rfl,fun _=>by simp⟩,?_⟩|refine⟨⟨by omega,by simp[lC,qH,SObj.sc,SV.scs,SV.sc],⟨_,rfl,Conv.refl _⟩,.inr (by simp),fun h=>by cases h⟩,?_⟩) (fun q hq=>by
     have hq2:q=0∨q=3∨q=6:=by simpa using hq
     rcases hq2 with rfl|rfl|rfl<;>exact⟨by omega,_,rfl⟩) (.opq 29) [(28,.kmap false true (qA (xW (lB x s).2.2 ins))),(29,(.row 1 (zQ x s).length ((zQ x s).map fun x=>ii x) 3)),(0,(SObj.cells (qH (ii (W (s.tick+1))) x.n.inp (fun j=>.mp (if j=z6 s.tick then 26 else 8+j)) (.mp 7)) 96).ren (shR (rq [(25,27),(27,25)]) 26 28)),(3,.row 2 x.n.N.length ((lB x s).1.flatMap Ste.cells) 139),(6,.row 4 x.pl.length ((lR x s (j9 x.rs.length rw0)).flatMap Mrk.cells) 84),(26,.pin plp)] 30 rfl rfl
    ⟨.inr ⟨26,_,rfl,rfl,rfl,rfl⟩,.inr ⟨27,_,rfl,rfl,(ofx (o:=(.row 1 (zQ x s).length ((zQ x s).map fun x=>ii x) 3)) (qK _ _)).symm,rfl⟩,.inr ⟨0,_,rfl,rfl,rfl,rfl⟩,.inr ⟨3,_,rfl,rfl,(ofx (o:=.row 2 x.n.N.length ((lB x s).1.flatMap Ste.cells) 139) (qQ _ _)).symm,rfl⟩,.inr ⟨6,_,rfl,rfl,(ofx (o:=.row 4 x.pl.length ((lR x s (j9 x.rs.length rw0)).flatMap Mrk.cells) 84) (qF _ _)).symm,rfl⟩,.inl ⟨rfl,fun i hi=>by
     have hi2:i=0∨i=3∨i=6:=by simpa using hi
     have hd:(rq [(25,27),(27,25)]) 0≠26∧(rq [(25,27),(27,25)]) 3≠26∧(rq [(25,27),(27,25)]) 6≠26:=by decide
     rcases hi2 with rfl|rfl|rfl
     ·exact hd.1
     ·exact hd.2.1
     ·exact hd.2.2⟩,trivial⟩ ?_
   refine Run.W2 hc ?_
   conv=>whnf
   obtain⟨k,hk⟩ :∃k,z6 s.tick=k:=⟨_,rfl⟩
   rw[hk]
   refine SpecR.intro 28 (by decide) hLB (by decide) hcov rfl rfl ⟨(show 27<28 by decide),trivial,trivial⟩ ⟨⟨?_,by omega,trivial⟩,⟨?_,by omega,Os.h _⟩,⟨?_,by omega,gR (S:=(· < 28)) (fun i hi=>by show i<28;omega) _ _ _ _ (by show 26<28;decide)⟩,⟨?_,by omega,Os.h _⟩,⟨?_,by omega,Os.h _⟩,trivial⟩
   ·rw[←hk]
    show _=some (SObj.kmap false true (qA (if z6 s.tick=z6 s.tick then xW (lB x s).2.2 ins else s.sm (z6 s.tick))))
    rw[if_pos rfl];rfl
   ·rw[ofx (o:=(.row 1 (zQ x s).length ((zQ x s).map fun x=>ii x) 3)) (qK _ _)];rfl
   ·show some (SObj.cells (SV.rens _ _) 96)=some (SObj.cells (SV.rens _ _) 96)
    rw[vU (fun i hi=>by show shR (rq [(25,27),(27,25)]) 26 28 i=i;rw[v8 (by omega)];exact zC (qZ (B:=25) rfl (by omega))),vU (fun i hi=>yN (by omega))]
    rfl
   ·rw[ofx (o:=.row 2 x.n.N.length ((lN x s ins (j9 x.rs.length rw0)).st.flatMap Ste.cells) 139) (qQ _ _)];rfl
   ·rw[ofx (o:=.row 4 x.pl.length ((lN x s ins (j9 x.rs.length rw0)).m.flatMap Mrk.cells) 84) (qF _ _)];rfl
  have hro:j9 x.rs.length rw0=rw0:=by unfold j9;rw[if_neg (by simpa using hz)]
  rw[hro]at hstep hlr ⊢
  conv=>whnf
  rw[show((rw0.length:Int) != (x.rs.length:Int))=false by simp[hlr]]
  conv=>whnf
  have hbd:kO rw0=false:=by
   unfold kB at hrc
   rw[if_neg (by simpa using hz),if_neg (by omega)]at hrc
   cases hb:kO rw0 with
   |false=>rfl
   |true=>rw[hb]at hrc;cases hrc
  refine Run.pD (g:=68) (vs:=[.opq 25,.v (.func (.func 69) #[] #[])]) (caps:=[]) (.v (.bool false)) (fun ρ w1 hW=>by
   have:=sP _ rw0 w1 (hW.rowsAt (i:=25) rfl) hrw
   rw[hbd]at this
   exact this) (ent _ _ Try.func68 (by kernel_rfl) rfl) rfl rfl rfl rfl rfl rfl rfl trivial ?_
  refine Run.W2 hc ?_
  conv=>whnf
  refine Run.pM (vs:=[.ptr 0 0,.opq 24,.opq 25]) (caps:=[]) (caps2:=[]) hstep (ent _ _ Try.func52 (by kernel_rfl) rfl) rfl rfl rfl rfl rfl rfl [.ptr 0 0,.opq 24,.opq 25] rfl id rfl (fun q hq=>by show q<27;omega) (fun q hq j hj hne=>by exact hne) (by decide) (by repeat first|exact trivial|refine⟨⟨by omega,trivial,⟨_,rfl,Conv.refl _⟩,.inl rfl,fun _=>by simp⟩,?_⟩|refine⟨⟨by omega,qQ _ _,⟨_,rfl,by rw[ofx (o:=.row 2 x.n.N.length (s.st.flatMap Ste.cells) 139) (qQ _ _)];exact Conv.refl _⟩,.inr (by simp),fun h=>by cases h⟩,?_⟩|refine⟨⟨by omega,qF _ _,⟨_,rfl,by rw[ofx (o:=.row 4 x.pl.length (s.m.flatMap Mrk.cells) 84) (qF _ _)];exact Conv.refl _⟩,.inr (by simp),fun h=>by cases h⟩,?_⟩|refine⟨⟨by omega,by simp[lC,qH,SObj.sc,SV.scs,SV.sc],⟨_,rfl,Conv.refl _⟩,.inr (by simp),fun h=>by cases h⟩,?_⟩) (fun q hq=>by
    have hq2:q=0∨q=3∨q=6:=by simpa using hq
    rcases hq2 with rfl|rfl|rfl<;>exact⟨by omega,_,rfl⟩) (.opq 28) [(27,.kmap false true (qA (xW (lB x s).2.2 ins))),(28,(.row 1 (zQ x s).length ((zQ x s).map fun x=>ii x) 3)),(0,(SObj.cells (qH (ii (W (s.tick+1))) x.n.inp (fun j=>.mp (if j=z6 s.tick then 26 else 8+j)) (.mp 7)) 96).ren (shR id 26 27)),(3,.row 2 x.n.N.length ((lB x s).1.flatMap Ste.cells) 139),(6,.row 4 x.pl.length ((lR x s rw0).flatMap Mrk.cells) 84),(26,.pin plp)] 29 rfl rfl
   ⟨.inr ⟨26,_,rfl,rfl,rfl,rfl⟩,.inr ⟨27,_,rfl,rfl,(ofx (o:=(.row 1 (zQ x s).length ((zQ x s).map fun x=>ii x) 3)) (qK _ _)).symm,rfl⟩,.inr ⟨0,_,rfl,rfl,rfl,rfl⟩,.inr ⟨3,_,rfl,rfl,(ofx (o:=.row 2 x.n.N.length ((lB x s).1.flatMap Ste.cells) 139) (qQ _ _)).symm,rfl⟩,.inr ⟨6,_,rfl,rfl,(ofx (o:=.row 4 x.pl.length ((lR x s rw0).flatMap Mrk.cells) 84) (qF _ _)).symm,rfl⟩,.inl ⟨rfl,fun i hi=>by
    have hi2:i=0∨i=3∨i=6:=by simpa using hi
    have hd:id 0≠26∧id 3≠26∧id 6≠26:=by decide
    rcases hi2 with rfl|rfl|rfl
    ·exact hd.1
    ·exact hd.2.1
    ·exact hd.2.2⟩,trivial⟩ ?_
  refine Run.W2 hc ?_
  conv=>whnf
  obtain⟨k,hk⟩ :∃k,z6 s.tick=k:=⟨_,rfl⟩
  rw[hk]
  refine SpecR.intro 27 (by decide) hLB (by decide) hcov rfl rfl ⟨(show 27<28 by decide),trivial,trivial⟩ ⟨⟨?_,by omega,trivial⟩,⟨?_,by omega,Os.h _⟩,⟨?_,by omega,gR (S:=(· < 28)) (fun i hi=>by show i<28;omega) _ _ _ _ (by show 26<28;decide)⟩,⟨?_,by omega,Os.h _⟩,⟨?_,by omega,Os.h _⟩,trivial⟩
  ·rw[←hk]
   show _=some (SObj.kmap false true (qA (if z6 s.tick=z6 s.tick then xW (lB x s).2.2 ins else s.sm (z6 s.tick))))
   rw[if_pos rfl];rfl
  ·rw[ofx (o:=(.row 1 (zQ x s).length ((zQ x s).map fun x=>ii x) 3)) (qK _ _)];rfl
  ·show some (SObj.cells (SV.rens _ _) 96)=some (SObj.cells (SV.rens _ _) 96)
   rw[vU (fun i hi=>by show shR id 26 27 i=i;rw[v8 (by omega)];exact rfl),vU (fun i hi=>yN (by omega))]
   rfl
  ·rw[ofx (o:=.row 2 x.n.N.length ((lN x s ins rw0).st.flatMap Ste.cells) 139) (qQ _ _)];rfl
  ·rw[ofx (o:=.row 4 x.pl.length ((lN x s ins rw0).m.flatMap Mrk.cells) 84) (qF _ _)];rfl
set_option maxHeartbeats 4000000
def decL {α : Type}(e:Nat)(dec:List Value→Option α):Nat→List Value→Option (List α)
 | 0,[]=>some []
 | 0,_::_=>none
 |n+1,vs=>match dec (vs.take e)with
  |some a=>match decL e dec n (vs.drop e)with
   |some l=>some (a::l)
   |none=>none
  |none=>none
theorem decL_flat {α : Type}{e:Nat}{dec:List Value→Option α}{vals : α → List Value}(hl :∀a,(vals a).length=e)(hd :∀a,dec (vals a)=some a) :∀l:List α,decL e dec l.length (l.flatMap vals)=some l
 | []=>rfl
 |a::l=>by
  have h1:((a::l).flatMap vals).take e=vals a:=by rw[List.flatMap_cons,List.take_left' (hl a)]
  have h2:((a::l).flatMap vals).drop e=l.flatMap vals:=by rw[List.flatMap_cons,List.drop_left' (hl a)]
  rw[List.length_cons]
  unfold decL
  rw[h1,h2,hd,decL_flat hl hd l]
theorem decL_eq {α : Type}{e:Nat}{dec:List Value→Option α}{vals : α → List Value}(hd :∀c a,dec c=some a→c=vals a) :∀{n:Nat} {vs:List Value} {l:List α},decL e dec n vs=some l→vs=l.flatMap vals∧l.length=n
 | 0,[],l,h=>by obtain rfl:=Option.some.inj h;exact⟨rfl,rfl⟩
 | 0,_::_,l,h=>by cases h
 |n+1,vs,l,h=>by
  unfold decL at h
  split at h
  ·rename_i a ha
   split at h
   ·rename_i l' hl'
    obtain rfl:=Option.some.inj h
    obtain⟨h1,h2⟩:=decL_eq hd hl'
    refine⟨?_,by rw[List.length_cons,h2]⟩
    rw[List.flatMap_cons,←hd _ _ ha,←h1,List.take_append_drop]
   ·cases h
  ·cases h
def dRul:List Value→Option Rul
 | [.int .i64 a,.int .i64 b,.int .i64 c,.int .i64 d,.int .i64 e,.int .i64 f,.int .i64 g,.int .i64 h,.int .i64 i,.bool j]=>some ⟨a,b,c,d,e,f,g,h,i,j⟩
 |_=>none
theorem dRul_eq (c:List Value)(a:Rul)(h:dRul c=some a):c=a.vals:=by
 unfold dRul at h
 split at h
 ·obtain rfl:=Option.some.inj h;rfl
 ·cases h
def unv:List SV→Option (List Value)
 | []=>some []
 | .v x::l=>match unv l with
  |some r=>some (x::r)
  |none=>none
 |_::_=>none
theorem unv_map :∀l:List Value,unv (l.map .v)=some l
 | []=>rfl
 |a::l=>by
  rw[List.map_cons]
  unfold unv
  rw[unv_map l]
theorem unv_eq :∀{l:List SV} {r:List Value},unv l=some r→l=r.map .v
 | [],r,h=>by obtain rfl:=Option.some.inj h;rfl
 |v::l,r,h=>by
  unfold unv at h
  split at h
  ·rename_i hv;cases hv
  ·rename_i hv
   split at h
   ·rename_i hr
    obtain rfl:=Option.some.inj h
    simp only[List.cons.injEq]at hv
    obtain⟨rfl,rfl⟩:=hv
    rw[unv_eq hr];rfl
   ·cases h
  ·cases h
def u1 (M:Mem)(i e:Nat):Option (Nat×List Value):=match M i with
 |some (.rwin e2 n vs)=>if e2=e then some (n,vs)else none
 |some (.row e2 n xs _)=>if e2=e then match unv xs with
  |some vs=>some (n,vs)
  |none=>none
  else none
 |_=>none
theorem rowOf_at {w0 w:World}{L:List (Nat×Nat)}{ρ:Env}{M:Mem}{S:Nat→Prop}(hW:WI w0 L ρ M S w){i e n:Nat}{vs:List Value}(he:0<e)(h:u1 M i e=some (n,vs)):RowsAt w ((SV.opq i).conc ρ) e n vs:=by
 unfold u1 at h
 split at h
 ·rename_i hM
  split at h
  ·rename_i e2
   simp only[Option.some.injEq,Prod.mk.injEq]at h
   obtain⟨rfl,rfl⟩:=h
   subst e2
   exact hW.rowsAt hM
  ·cases h
 ·rename_i hM
  split at h
  ·rename_i e2
   split at h
   ·rename_i hu
    simp only[Option.some.injEq,Prod.mk.injEq]at h
    obtain⟨rfl,rfl⟩:=h
    subst e2
    have:=hW.rowsAtR hM he
    rw[unv_eq hu,zW]at this
    exact this
   ·cases h
  ·cases h
 ·cases h
theorem rowOf_win {M:Mem}{i e n:Nat}{vs:List Value}(h:M i=some (.rwin e n vs)):u1 M i e=some (n,vs):=by unfold u1;simp only[h];rw[if_pos trivial]
theorem rowOf_row {M:Mem}{i e n:Nat}{vs:List Value}{te:TypeId}(h:M i=some (.row e n (vs.map .v) te)):u1 M i e=some (n,vs):=by unfold u1;simp only[h,unv_map];rw[if_pos trivial]
theorem rowOf_congr {M M':Mem}{i e:Nat}(h:M' i=M i):u1 M' i e=u1 M i e:=by unfold u1;rw[h]
def FTrue_v:List SV→Option SV
 | []=>some (.v (.bool true))
 |_=>none
theorem works_pure:Pure Try.prog 14 (zV FTrue_v):=PureV.lift {
 ent:=ent _ _ Try.func14 (by kernel_rfl) rfl
 sc S args v hv hs:=by
  unfold FTrue_v at hv
  split at hv
  ·obtain rfl:=Option.some.inj hv;trivial
  ·cases hv
 run ρ args v w hv:=by
  unfold FTrue_v at hv
  split at hv
  ·obtain rfl:=Option.some.inj hv;exact works_run w
  ·cases hv }
def fewB (n:Net)(rs:List Rul)(pl:List Int):Bool:=decide ((n.N.length:Int)≤24)&&(decide ((n.S.length:Int)≤100)&&(decide ((rs.length:Int)≤17)&&decide ((pl.length:Int)≤110)))
theorem few_run (vN vS:Value)(n:Net)(vR:Value)(rs:List Rul)(vP:Value)(pl:List Int)(w:World)(hn:vK w vN vS n)(hr:RowsAt w vR 10 rs.length (rs.flatMap Rul.vals))(hpl:RowsAt w vP 1 pl.length (qB pl)) :
  Calls Try.prog 13 #[xL vN vS n,vR,vP] w fun e w'=>e = .returned (.bool (fewB n rs pl))∧Ext w w':=by
 have hc :∀L,Cx.ok ⟨Try.prog,tab,[],13,Try.f13,[],w,L,none⟩:=fun L=>⟨qI,trivial,Try.func13,mixed,fun _ h=>by cases h⟩
 obtain⟨h1,h2⟩:=hn
 obtain⟨N,inp,S⟩:=n
 simp only at h1 h2
 have hrows:AllP (fun x:Value×Nat×Nat×List Value=>RowsAt w x.1 x.2.1 x.2.2.1 x.2.2.2) [(vN,8,N.length,N.flatMap Prm.vals),(vS,4,S.length,S.flatMap Syn.vals),(vR,10,rs.length,rs.flatMap Rul.vals),(vP,1,pl.length,qB pl)]:=⟨h1,h2,hr,hpl,trivial⟩
 refine Run.pH Try.func13 rfl _ hrows [.agg [.opq 0,ii inp,.opq 1],.opq 2,.opq 3] [xL vN vS ⟨N,inp,S⟩,vR,vP] [(0,.rwin 8 N.length (N.flatMap Prm.vals)),(1,.rwin 4 S.length (S.flatMap Syn.vals)),(2,.rwin 10 rs.length (rs.flatMap Rul.vals)),(3,.rwin 1 pl.length (qB pl))] 4 rfl rfl
  (by show [Value.agg [(SV.opq 0).conc _,.int .i64 inp,(SV.opq 1).conc _].toArray,(SV.opq 2).conc _,(SV.opq 3).conc _]=_;rw[qS hrows (k:=0) rfl,qS hrows (k:=1) rfl,qS hrows (k:=2) rfl,qS hrows (k:=3) rfl];rfl) (by simp[SV.scs,SV.sc]) rfl (Run.r8 (hc _) 1000 _ ?_)
 conv=>whnf
 have fin :∀b:Bool,fewB ⟨N,inp,S⟩ rs pl=b → ∀{M:List (Nat×SObj)} {n:Nat} {c:Cx},c.w0=w→c.L=[]→RetOk c M n (.v (.bool b)) (fun e w'=>e = .returned (.bool (fewB ⟨N,inp,S⟩ rs pl))∧Ext w w'):=
  fun b hb M n c hw hL=>⟨fun ρ w' hW _=>⟨by rw[hb];rfl,by rw[hw,hL]at hW;exact hW.toExt⟩⟩
 cases b1:decide ((N.length:Int)≤24)
 ·conv=>whnf
  exact fin false (by unfold fewB;simp only[b1];rfl) rfl rfl
 conv=>whnf
 cases b2:decide ((S.length:Int)≤100)
 ·conv=>whnf
  exact fin false (by unfold fewB;simp only[b1,b2];rfl) rfl rfl
 conv=>whnf
 cases b3:decide ((rs.length:Int)≤17)
 ·conv=>whnf
  exact fin false (by unfold fewB;simp only[b1,b2,b3];rfl) rfl rfl
 conv=>whnf
 cases b4:decide ((pl.length:Int)≤110)
 ·conv=>whnf
  exact fin false (by unfold fewB;simp only[b1,b2,b3,b4];rfl) rfl rfl
 conv=>whnf
 exact fin true (by unfold fewB;simp only[b1,b2,b3,b4];rfl) rfl rfl
theorem ref_run (v:Value)(l:List Rul)(w:World)(hr:RowsAt w v 10 l.length (l.flatMap Rul.vals))(hl:l.length≤1000):Calls Try.prog 17 #[v] w (xP 40 10 l.length (l.flatMap Rul.vals) w):=by
 have hc :∀L,Cx.ok ⟨Try.prog,tab,[(2000,fun _ _=>none)],17,Try.f17,[],w,L,none⟩:=fun L=>⟨qI,⟨trivial,trivial⟩,Try.func17,mixed,fun _ h=>by cases h⟩
 have hrows:AllP (fun x:Value×Nat×Nat×List Value=>RowsAt w x.1 x.2.1 x.2.2.1 x.2.2.2) [(v,10,l.length,l.flatMap Rul.vals)]:=⟨hr,trivial⟩
 refine Run.pH Try.func17 rfl _ hrows [.opq 0] [v] [(0,.rwin 10 l.length (l.flatMap Rul.vals))] 1 rfl rfl
  (by show [(SV.opq 0).conc _]=_;rw[qS hrows (k:=0) rfl]) (by simp[SV.scs,SV.sc]) rfl (Run.r8 (hc _) 1000 _ ?_)
 conv=>whnf
 refine Run.nils (T':=[(0,.opq 0),(3,.opq 1),(4,ii ((0:Nat):Int))]) (M':=[(1,.row 10 0 [] 40),(0,.rwin 10 l.length (l.flatMap Rul.vals))]) 1 (fun _=>.row 10 0 [] 40) (fun _ _=>.inl ⟨_,_,rfl⟩) ⟨⟨_,rfl,.inl rfl⟩,⟨_,rfl,.inr (.inl ⟨rfl,0,by decide,rfl⟩)⟩,⟨_,rfl,.inl rfl⟩,trivial⟩ ⟨.inl ⟨0,by decide,rfl⟩,.inr ⟨_,rfl,.inl rfl⟩,trivial⟩ ?_
 refine Run.pE (T:=fun i=>[(0,.opq 0),(3,.opq 1),(4,ii (i:Int))]) (M:=fun i=>[(1,.row 10 i (((l.take i).flatMap Rul.vals).map .v) 40),(0,.rwin 10 l.length (l.flatMap Rul.vals))]) (fun _=>True) l.length trivial ?_ ?_
 ·intro i hi hJ ih
  refine Run.W1 (hc _) ?_
  conv=>whnf
  rw[decide_eq_true (show((i:Nat):Int)<(l.length:Int)by omega)]
  conv=>whnf
  refine⟨by omega,?_⟩
  conv=>whnf
  rw[zZ (f:=Rul.vals) (l:=l) i rfl rfl rfl rfl rfl Rul.vlen (by rw[qE]) hi]
  conv=>whnf
  refine⟨by omega,?_⟩
  conv=>whnf
  refine Run.pF (T':=[(0,.opq 0),(3,.opq 1),(4,ii ((i+1:Nat):Int))]) (M':=[(1,.row 10 (i+1) (((l.take (i+1)).flatMap Rul.vals).map .v) 40),(0,.rwin 10 l.length (l.flatMap Rul.vals))]) (rq [(1,3),(3,1)]) 2 ?_ ?_ ?_ ?_ (ih trivial)
  ·intro i hi j hj hne he
   have inv :∀i,i<2→rq [(1,3),(3,1)] (rq [(1,3),(3,1)] i)=i:=by decide
   exact hne (by rw[←inv i hi,he,inv j hj])
  ·exact⟨⟨rfl,ltb rfl⟩,⟨rfl,ltb rfl⟩,⟨wsx (by omega),trivial⟩,trivial⟩
  ·refine⟨⟨?_,by omega,Os.h _⟩,⟨rfl,by omega,Os.h _⟩,trivial⟩
   rw[ofx (o:=.row 10 (i+1) (((l.take (i+1)).flatMap Rul.vals).map .v) 40) (qR _ _)]
   rw[←List.take_append_getElem hi,List.flatMap_append,List.map_append]
   rfl
  ·intro p hp;cases hp
 ·intro _
  refine Run.W1 (hc _) ?_
  conv=>whnf
  rw[decide_eq_false (show ¬((l.length:Nat):Int)<(l.length:Int)by omega)]
  conv=>whnf
  refine⟨fun ρ w' hW _=>⟨(SV.opq 1).conc ρ,rfl,hW.toExt,?_⟩⟩
  have:=hW.ownsNew (i:=1) (e:=10) rfl (by omega)
  rw[List.take_length,zW]at this
  exact this
def FRef:Mem→List SV→Option (List Nat×SV):=fun M args=>match args with
 | [.opq j]=>match u1 M j 10 with
  |some (n,vs)=>match decL 10 dRul n vs with
   |some l=>if n≤1000 then some ([10,n,40],.agg ((l.flatMap Rul.vals).map .v))else none
   |none=>none
  |none=>none
 |_=>none
theorem FRef_eq {M:Mem}{j:Nat}{l:List Rul}(h:u1 M j 10=some (l.length,l.flatMap Rul.vals))(hl:l.length≤1000):FRef M [.opq j]=some ([10,l.length,40],.agg ((l.flatMap Rul.vals).map .v)):=by
 unfold FRef
 simp only[h,decL_flat (dec:=dRul) Rul.vlen (fun _=>rfl) l]
 rw[if_pos hl]
theorem mk_ref:Maker Try.prog 17 FRef where
 ent:=ent _ _ Try.func17 (by kernel_rfl) rfl
 cong M M' args hb:=by
  unfold FRef
  split
  ·rename_i j
   rw[rowOf_congr (hb (.opq j) (by simp) j (by simp[xG]))]
  ·rfl
 run w0 L ρ M S args e m te xs w hW hF hs:=by
  unfold FRef at hF
  split at hF
  case h_2=>cases hF
  rename_i j
  split at hF
  case h_2=>cases hF
  rename_i n vs hM
  split at hF
  case h_2=>cases hF
  rename_i l hl
  split at hF
  case isFalse=>cases hF
  rename_i hn
  obtain⟨g1,g2⟩:=decL_eq dRul_eq hl
  subst g1 g2
  simp only[Option.some.injEq,Prod.mk.injEq,List.cons.injEq,SV.agg.injEq,and_true]at hF
  obtain⟨⟨rfl,rfl,rfl⟩,rfl⟩:=hF
  refine⟨qR _ _,?_⟩
  rw[zW]
  exact ref_run _ l w (rowOf_at hW (by decide) hM) hn
 runM w0 L ρ M S args pk w hW hF hs:=by
  exfalso
  unfold FRef at hF
  split at hF
  case h_2=>cases hF
  split at hF
  case h_2=>cases hF
  split at hF
  case h_2=>cases hF
  split at hF<;>cases hF
end Go.Proofs.Ytnnlpdgnlccbjaa
namespace Go.Sx
theorem Run.appendC {c:Cx}(hc:c.ok){T:List (Nat×SV)}{M:List (Nat×SObj)}{n:Nat}{D:List Deferred}{ops:Array Oper}{i:Nat}{r:List Nat}{k:List Item}{R:Ending→World→Prop}{o:Oper}{x y:Operand}{t:TypeId}
  (ho:get ops.toList i=some o) (hop:o.op = .call { callee:=.builtin .append,args:= #[x,y],argTypes:= #[t,t] }) (hw:jN ops.toList (look T) o=some true) (hd:okD c.fn.ntmps o.dst=true)
  {j e:Nat} {te:TypeId} (hx:ev (look T) x=some (.slc j 0 0 0)) (hj:look M j=some (.cells [] te))
  {q len:Nat} {vs:List Value} (hy:ev (look T) y=some (.opq q)) (hq :∀ ρ w,WI c.w0 c.L ρ (look M) (· < n) w→RowsAt w ((SV.opq q).conc ρ) e len vs) (hone' :∀u∈vs,u.oneCell'=true)
  {ti tie:TI} {bytes:Nat} (hti:look c.tab t=some ti) (hsh:ti.sh = .slc te e bytes) (hte:look c.tab te=some tie) (hz:tie.zero.length=e) (he:0<e)
  (hfit:len*bytes≤140737488355328∧len<9223372036854775808) (M':List (Nat×SObj)) (hM':AllP (fun p=>look M p.1=some p.2∧p.1≠j) M')
  (h:Run c ⟨j5 T o.dst (.opq n),(n,.row e len (vs.map .v) te)::M',n+1,D,.inRegion ops r::k⟩ R):Run c ⟨T,M,n,D,.inRegion ops (i::r)::k⟩ R:=by
 refine⟨fun ρ a w hi=> ?_⟩
 rw[zN,Array.getElem?_toList]at ho
 refine TW.op ho (jA hi.tm hw) ?_
 obtain⟨h1,_⟩:=qU hi.tm hx
 obtain⟨h2,_⟩:=qU hi.tm hy
 have hti:=Tab.ok_look hc.tab hti
 have hte:=Tab.ok_look hc.tab hte
 obtain⟨d,hd1,hd2⟩:=hti.desc
 obtain⟨inf,rfl,g2,g3,g4⟩:=sh_desc.2.2.2.2.1 te e bytes (hd2.trans hsh)
 obtain⟨inf',z,i1,_,i3,i4⟩:=hte.infos
 rw[g2]at i1
 obtain rfl:=Option.some.inj i1
 have hzs:z.cells.size=e:=by rw[←hz,←i4];simp
 obtain⟨hSj,hscj,h0,hcb⟩:=hi.wi.mem j _ hj
 have hsub :∀kk oo,look M' kk=some oo→look M kk=some oo:=fun kk oo hk=>(hM'.mem _ (qJ hk)).1
 have hown:w.ownsRow 0 te e (.slice (some ⟨ρ.s j,0,none⟩) 0 0) 0 []:=
  ⟨by simp,.inr ⟨ρ.s j,0,#[],rfl,Nat.zero_le _,hcb,Nat.le_refl _,Nat.zero_le _,by simp,by simp⟩⟩
 have hx1:a.eval x = .slice (some ⟨ρ.s j,0,none⟩) 0 0:=by rw[h1];simp only[SV.conc,h0,Nat.add_zero]
 obtain⟨hvl,p,cap,hv,hcap,hp⟩:=hq ρ w hi.wi
 rw[hv]at h2
 have fin :∀v' w' row,(execOp a.eval o).run c.P w = .ok (.value v') w'→w'.ownsRow 0 te e v' len vs→w.grownBy w' row→(row=none∨row=some (ρ.s j))→(∀g,v'.ownBlock=some g→row=some g∨w.heap.size≤g) →
   Oc c.P a o w fun v w'=>TW c.P c.f c.rr (a.put o.dst v) (.inRegion ops r::k) w' R:=by
  intro v' w' row hrun r2 r3 r4 r5
  rw[←zW ρ vs]at r2
  obtain⟨hW',hag⟩:=hi.wi.rowTo hsub (i:=n) (Nat.lt_irrefl n) (xs:=vs.map .v) (t:=te) (e:=e) (n:=len) r3 (fun b hb=>by
   rcases r4 with r4|r4
   ·rw[r4]at hb;cases hb
   ·rw[r4]at hb
    obtain rfl:=Option.some.inj hb
    exact⟨fun kk oo hk ck=>hi.wi.dist kk j oo _ (hsub kk oo hk) hj (hM'.mem _ (qJ hk)).2 ck trivial,hi.wi.new j _ hj trivial⟩) r5 r2 (qR _ vs)
  refine Oc.value hrun ?_
  have hW2:WI c.w0 c.L (ρ.bindV n v') (look ((n,.row e len (vs.map .v) te)::M')) (· < n+1) w':=by
   rw[zB];exact hW'.mono fun q hq=>by have hq:q<n∨q=n:=hq;omega
  have hinv:=hi.put (ρ':=ρ.bindV n v') hd hag (Nat.le_succ n) (v:=.opq n) (Nat.lt_succ_self n) hW2 (.inRegion ops r::k)
  rw[yV r2]at hinv
  exact h.go _ _ w' hinv
 cases p with
 |none=>
  have hl0:len=0:=by
   rcases hp with hp|⟨_,_,hp,_⟩
   ·exact hp
   ·cases hp
  subst hl0
  obtain rfl:vs=[]:=List.length_eq_zero_iff.1 (by simpa using hvl)
  have hrun:(execOp a.eval o).run c.P w = .ok (.value (.slice (some ⟨ρ.s j,0,none⟩) 0 0)) w:=by
   simp[execOp,hop,resolve,invoke,builtin,hx1,h2,sN w hd1 g2 _ 0 0 cap (Nat.le_refl 0)]
  exact fin _ w (some (ρ.s j)) hrun hown ⟨rfl,rfl,rfl,Nat.le_refl _,fun _ _ _=>rfl⟩ (.inr rfl) (fun g hg=>.inl hg)
 |some ad=>
  have hcell :∀jj u,vs[jj]? = some u→w.cell? (ad.add jj)=some u:=fun jj u hu=>by
   rcases hp with hp|⟨blk,off,hp,_,hh⟩
   ·subst hp
    obtain rfl:vs=[]:=List.length_eq_zero_iff.1 (by simpa using hvl)
    cases hu
   ·obtain rfl:=Option.some.inj hp
    rw[jI];exact hh jj u hu
  obtain⟨v',w',row,r1,r2,r3,r4,r5⟩:=kH (P:=c.P) w t o.type te inf z e hd1 g2 i3 g3 hzs he _ 0 _ hown ad len cap vs hvl hcell hone' (by simp only[maxLen];omega) (by rw[g4,Nat.zero_add];exact hfit.1)
  rw[Nat.zero_add,List.nil_append]at r2
  have hrun:(execOp a.eval o).run c.P w = .ok (.value v') w':=by
   simp[execOp,hop,resolve,invoke,builtin,hx1,h2,r1]
  exact fin v' w' row hrun r2 r3 (r4.imp id fun h=>h) r5
theorem WI.enterA {w0 w:World}{L:List (Nat×Nat)}{ρ:Env}{M:List (Nat×SObj)}{n:Nat}(hW:WI w0 L ρ (look M) (· < n) w)(r:Nat→Nat)(Mc:List (Nat×SObj))(B:Nat)(is:List Nat)(keys:List Nat)(hkeys:Mc.map (·.1)=keys)(hinj :∀i∈keys,∀j∈keys,i≠j→r i≠r j)
  (hMc:AllP (fun x=>x.1<B∧x.2.sc (· < B)∧(∃o,look M (r x.1)=some o∧Conv o (x.2.ren r))∧(x.2.wnd=true∨x.1∈is)∧(x.2.wnd=true→x.1∉is)) Mc) (his :∀i∈is,i<B ∧ ∃o,look Mc i=some o) :
  ∃L',(∀p∈L',p.1∈is∧p.2=ρ.s (r p.1) ∧ ∃o,look M (r p.1)=some o∧o.occ ρ (r p.1))∧WI w L' (ρ.ren r) (look Mc) (· < B) w:=by
 classical
 let L':List (Nat×Nat):=(is.filter fun i=>decide (∃o,look M (r i)=some o∧o.occ ρ (r i))).map fun i=>(i,ρ.s (r i))
 have hL' :∀p∈L',p.1∈is∧p.2=ρ.s (r p.1) ∧ ∃o,look M (r p.1)=some o∧o.occ ρ (r p.1):=by
  intro p hp
  obtain⟨i,hi,rfl⟩:=List.mem_map.1 hp
  obtain⟨h1,h2⟩:=List.mem_filter.1 hi
  exact⟨h1,rfl,of_decide_eq_true h2⟩
 have hk :∀x∈Mc,x.1∈keys:=fun x hx=>by rw[←hkeys];exact List.mem_map.2 ⟨x,hx,rfl⟩
 refine⟨L',hL',?_⟩
 refine hW.again ((Ext.refl w).modF fun _=>False) r L' Mc B (fun p hp=> ?_) (fun x hx=> ?_) (fun x hx y hy h=>hinj _ (hk x hx) _ (hk y hy) h)
 ·obtain⟨h1,h2,h3⟩:=hL' p hp
  obtain⟨h4,o,h5⟩:=his p.1 h1
  exact⟨h4,h2,⟨_,qJ h5,rfl⟩,h3⟩
 ·obtain⟨h1,h2,⟨o,h3,h4⟩,h5,h6⟩:=hMc.mem x hx
  refine⟨h1,h2,fun ho=> ?_,o,h3,h4,?_,fun hwd p hp he=>h6 hwd (by rw[←he];exact(hL' p hp).1)⟩
  ·rcases h5 with h5|h5
   ·exfalso
    cases hx2:x.2<;>rw[hx2]at h5 ho<;>first|cases h5;done|exact ho.elim
   ·refine⟨(x.1,ρ.s (r x.1)),List.mem_map.2 ⟨x.1,List.mem_filter.2 ⟨h5,decide_eq_true ⟨o,h3,?_⟩⟩,rfl⟩,rfl⟩
    rcases h4 with h4|⟨e,m,t,vs,_,_,h4⟩|⟨pk,nn,l,_,h4⟩
    ·rw[←h4];exact occ_ren.2 ho
    ·have:=(occ_ren (ρ:=ρ) (r:=r) (i:=x.1) (o:=x.2)).2 ho
     rw[h4]at this;exact this.elim
    ·have:=(occ_ren (ρ:=ρ) (r:=r) (i:=x.1) (o:=x.2)).2 ho
     rw[h4]at this;exact this.elim
  ·cases o<;>simp[SObj.away]
theorem Run.callA {c:Cx}{T:List (Nat×SV)}{M:List (Nat×SObj)}{n:Nat}{D:List Deferred}{ops:Array Oper}{i:Nat}{r:List Nat}{k:List Item}{R:Ending→World→Prop}{o:Oper}{f:Operand}{args:Array Operand}{ts:Array TypeId}
  {fv:SV} {g:FuncId} {caps caps2 vs:List SV} {Mc:List (Nat×SObj)} {B:Nat} {is:List Nat} {v:SV} {M1:List (Nat×SObj)} {n1:Nat} (hspec:BSpec c.P g (vs++caps) Mc B is v M1 n1) (hg:jB c.P g)
  (ho:get ops.toList i=some o) (hop:o.op = .call { callee:=.value f,args:=args,argTypes:=ts }) (hw:jN ops.toList (look T) o=some true) (hd:okD c.fn.ntmps o.dst=true)
  (hf:ev (look T) f=some fv) (hfv:jO fv=some (g,caps2)) (vs2:List SV) (hvs:evs (look T) args.toList=some vs2) (rn:Nat→Nat) (hvr:SV.rens rn (vs++caps)=vs2++caps2) (hr :∀i,i<B→rn i<n) (keys:List Nat) (hkeys:Mc.map (·.1)=keys) (hinj :∀i∈keys,∀j∈keys,i≠j→rn i≠rn j) (hB1:B≤n1)
  (hMc:AllP (fun x=>x.1<B∧x.2.sc (· < B)∧(∃o,look M (rn x.1)=some o∧Conv o (x.2.ren rn))∧(x.2.wnd=true∨x.1∈is)∧(x.2.wnd=true→x.1∉is)) Mc) (his :∀i∈is,i<B ∧ ∃o,look Mc i=some o)
  (v2:SV) (M2:List (Nat×SObj)) (n2:Nat) (hv2:v2=v.ren (shR rn B n)) (hn2:n2=n+(n1-B)) (hM2:AllP (fun x=>(look M x.1=some x.2 ∧ ∀i∈is,rn i≠x.1) ∨ ∃i o,shR rn B n i=x.1∧look M1 i=some o∧x.2=o.ren (shR rn B n)∧o.wnd=false) M2)
  (h:Run c ⟨j5 T o.dst v2,M2,n2,D,.inRegion ops r::k⟩ R):Run c ⟨T,M,n,D,.inRegion ops (i::r)::k⟩ R:=by
 subst hv2 hn2
 refine Run.pV ho hop hw hd hf hfv hvs hg (fun v' M' n'=>v'=v.ren (shR rn B n)∧M'=M2∧n'=n+(n1-B)) (fun ρ w _ hW=> ?_) (fun v' M' n' hp=> ?_)
 ·obtain⟨L',hL',hWc⟩:=hW.enterA rn Mc B is keys hkeys hinj hMc his
  have hcall:=hspec (ρ.ren rn) w L' hWc fun p hp=>(hL' p hp).1
  rw[←kW,hvr]at hcall
  refine hcall.mono fun e w' ⟨ρ',he,hv,hag,hW'⟩=> ?_
  obtain⟨hW2,hag2⟩:=hW.mergeR hr hW' hB1 hag (fun p hp=>⟨(his _ (hL' p hp).1).1,(hL' p hp).2.2⟩) M2 (fun x hx=>by
   rcases hM2.mem x hx with⟨h1,h2⟩|h1
   ·exact .inl ⟨h1,fun p hp=>h2 _ (hL' p hp).1⟩
   ·exact .inr h1)
  refine⟨ρ.join B n ρ',_,_,_,?_,hag2,by omega,?_,hW2,rfl,rfl,rfl⟩
  ·rw[he,kV,Env.oG hr hag]
  ·refine SV.sc_ren (fun j (hj:j<n1)=> ?_) v hv
   show shR rn B n j<n+(n1-B)
   rcases Nat.lt_or_ge j B with h|h
   ·rw[v8 h];have:=hr j h;omega
   ·rw[shR_ge h];omega
 ·obtain⟨rfl,rfl,rfl⟩:=hp;exact h
open Go
set_option maxRecDepth 100000
set_option maxHeartbeats 2000000
theorem Run.dummy {c:Cx}{T:List (Nat×SV)}{M:List (Nat×SObj)}{n:Nat}{D:List Deferred}{todo:List Item}{R:Ending→World→Prop}(e:Nat)(te:TypeId)
  (hT :∀x∈T,look T x.1=some x.2) (hM :∀x∈M,look M x.1=some x.2) (h:Run c ⟨T,(n,.row e 0 [] te)::M,n+1,D,todo⟩ R):Run c ⟨T,M,n,D,todo⟩ R:=
 Run.p9 e te (fun x hx=>⟨x.2,hT x hx,.inl rfl⟩) (fun x hx=>by
  rcases List.mem_cons.1 hx with rfl|hx
  ·exact .inl rfl
  ·exact .inr ⟨x.2,hM x hx,.inl rfl⟩) h
def emptyRows (e:Nat)(te:TypeId):Nat→Nat→List (Nat×SObj)→List (Nat×SObj)
 | 0,_,M=>M
 |m+1,n,M=>emptyRows e te m (n+1) ((n,.row e 0 [] te)::M)
theorem Run.dummies {c:Cx}{T:List (Nat×SV)}{D:List Deferred}{todo:List Item}{R:Ending→World→Prop}(e:Nat)(te:TypeId)(hT :∀x∈T,look T x.1=some x.2) :
  ∀(m n:Nat) (M:List (Nat×SObj)),(∀x∈M,look M x.1=some x.2)→(∀x∈M,x.1<n)→Run c ⟨T,emptyRows e te m n M,n+m,D,todo⟩ R→Run c ⟨T,M,n,D,todo⟩ R
 | 0,_,_,_,_,h=>h
 |m+1,n,M,hM,hn,h=>by
  refine Run.dummy e te hT hM (Run.dummies e te hT m (n+1) _ (fun x hx=> ?_) (fun x hx=> ?_) ?_)
  ·rcases List.mem_cons.1 hx with rfl|hx
   ·simp[look]
   ·have h1:=hn x hx
    have h2:=hM x hx
    rw[zK,if_neg (by omega)];exact h2
  ·rcases List.mem_cons.1 hx with rfl|hx
   ·show n<n+1;omega
   ·have:=hn x hx;omega
  ·rw[show n+1+m=n+(m+1)by omega];exact h
def zT (b m:Nat):List SV:=(List.range m).map fun r=>.opq (b+r)
theorem tabX_get {b m k:Nat}(h:k<m):(zT b m)[k]? = some (.opq (b+k)):=by simp[zT,h]
theorem qO {b m n:Nat}(h:b+m≤n):SV.scs (· < n) (zT b m):=by
 have :∀l:List Nat,(∀r∈l,b+r<n)→SV.scs (· < n) (l.map fun r=>SV.opq (b+r)):=by
  intro l
  induction l with
  |nil=>intro _;trivial
  |cons a l ih=>intro hl;exact⟨hl a (by simp),ih fun r hr=>hl r (by simp[hr])⟩
 exact this _ fun r hr=>by have:=List.mem_range.1 hr;omega
theorem tabX_ren {r:Nat→Nat}{b b' m:Nat}(h :∀j,j<m→r (b+j)=b'+j):SV.rens r (zT b m)=zT b' m:=by
 have :∀l:List Nat,(∀j∈l,r (b+j)=b'+j)→SV.rens r (l.map fun r=>SV.opq (b+r))=l.map fun r=>SV.opq (b'+r):=by
  intro l
  induction l with
  |nil=>intro _;rfl
  |cons a l ih=>
   intro hl
   show SV.opq (r (b+a))::SV.rens r (l.map fun r=>SV.opq (b+r))=SV.opq (b'+a)::l.map fun r=>SV.opq (b'+r)
   rw[hl a (by simp),ih fun j hj=>hl j (by simp[hj])]
 exact this _ fun j hj=>h j (List.mem_range.1 hj)
theorem z5 {r:Nat→Nat}{b b' m e c:Nat}{te:TypeId}(h :∀j,j<m→r (b+j)=b'+j):(SObj.row e c (zT b m) te).ren r = .row e c (zT b' m) te:=by
 show SObj.row e c (SV.rens r (zT b m)) te=_
 rw[tabX_ren h]
def cN (m N k:Nat):Nat:=if k<m then N else 0
def putF {α : Type}(F:Nat → α)(k:Nat)(x : α):Nat → α :=fun j=>if j=k then x else F j
theorem Run.appendO {c:Cx}(hc:c.ok){T:List (Nat×SV)}{M:List (Nat×SObj)}{n:Nat}{D:List Deferred}{ops:Array Oper}{i:Nat}{r:List Nat}{k:List Item}{R:Ending→World→Prop}{o:Oper}{x y:Operand}{t:TypeId}
  (ho:get ops.toList i=some o) (hop:o.op = .call { callee:=.builtin .append,args:= #[x,y],argTypes:= #[t,t] }) (hw:jN ops.toList (look T) o=some true) (hd:okD c.fn.ntmps o.dst=true)
  {j e m:Nat} {xs:List SV} {te:TypeId} (hx:ev (look T) x=some (.opq j)) (hj:look M j=some (.row e m xs te))
  {j2 len:Nat} {news:List SV} {te2:TypeId} (hy:ev (look T) y=some (.opq j2)) (hj2:look M j2=some (.row e len news te2)) (hlen:0<len) (hone:kD news=true)
  {ti tie:TI} {bytes:Nat} (hti:look c.tab t=some ti) (hsh:ti.sh = .slc te e bytes) (hte:look c.tab te=some tie) (hz:tie.zero.length=e) (he:0<e)
  (hfit:(m+len)*bytes≤140737488355328∧m+len<9223372036854775808) (M':List (Nat×SObj)) (hM' :∀p∈M',look M p.1=some p.2∧p.1≠j)
  (h:Run c ⟨j5 T o.dst (.opq n),(n,.row e (m+len) (xs++news) te)::M',n+1,D,.inRegion ops r::k⟩ R):Run c ⟨T,M,n,D,.inRegion ops (i::r)::k⟩ R:=by
 refine⟨fun ρ a w hi=> ?_⟩
 rw[zN,Array.getElem?_toList]at ho
 refine TW.op ho (jA hi.tm hw) ?_
 obtain⟨h1,_⟩:=qU hi.tm hx
 obtain⟨h2,_⟩:=qU hi.tm hy
 have hti:=Tab.ok_look hc.tab hti
 have hte:=Tab.ok_look hc.tab hte
 obtain⟨d,hd1,hd2⟩:=hti.desc
 obtain⟨inf,rfl,g2,g3,g4⟩:=sh_desc.2.2.2.2.1 te e bytes (hd2.trans hsh)
 obtain⟨inf',z,i1,_,i3,i4⟩:=hte.infos
 rw[g2]at i1
 obtain rfl:=Option.some.inj i1
 have hzs:z.cells.size=e:=by rw[←hz,←i4];simp
 obtain⟨_,hscr,_⟩:=hi.wi.mem j _ hj
 obtain⟨_,hscn,_⟩:=hi.wi.mem j2 _ hj2
 obtain⟨hvl,p,cap,hv,hcap,hp⟩:=hi.wi.rowsAtR hj2 he
 have hp2 :∃blk off,p=some ⟨blk,off,none⟩ ∧ ∀jj u,(SV.concs ρ news)[jj]? = some u→w.cell? ⟨blk,off+jj,none⟩=some u:=by
  rcases hp with hp|⟨blk,off,h3,_,h4⟩
  ·omega
  ·exact⟨blk,off,h3,h4⟩
 obtain⟨blk,off,rfl,hcells⟩:=hp2
 rw[hv]at h2
 have hcell :∀jj u,(SV.concs ρ news)[jj]? = some u→w.cell? ((⟨blk,off,none⟩:Addr).add jj)=some u:=fun jj u hu=>by
  rw[jI];exact hcells jj u hu
 have hone' :∀u∈SV.concs ρ news,u.oneCell'=true:=by
  intro u hu
  rw[z9]at hu
  obtain⟨v,hv,rfl⟩:=List.mem_map.1 hu
  exact gI (vL hone v hv)
 have hown:=hi.wi.owns hj he
 obtain⟨v',w',row,r1,r2,r3,r4,r5⟩:=kH (P:=c.P) w t o.type te inf z e hd1 g2 i3 g3 hzs he _ m _ hown ⟨blk,off,none⟩ len cap (SV.concs ρ news) hvl hcell hone' (by simp only[maxLen];omega) (by rw[g4];exact hfit.1)
 have hrun:(execOp a.eval o).run c.P w = .ok (.value v') w':=by
  simp only[SV.conc]at h1 r1
  simp[execOp,hop,resolve,invoke,builtin,h1,h2,r1]
 rw[←jK]at r2
 have hsub :∀kk oo,look M' kk=some oo→look M kk=some oo:=fun kk oo hk=>(hM' _ (qJ hk)).1
 have hjocc :∀b,((SV.opq j).conc ρ).ownBlock=some b→(SObj.row e m xs te).occ ρ j∧ρ.s j=b:=by
  intro b hb
  obtain⟨_,_,_,_,hh⟩:=hi.wi.mem j _ hj
  rcases hh with⟨hh,_⟩|⟨cap',sp,hh,_⟩
  ·simp[SV.conc,hh,Value.ownBlock]at hb
  ·simp only[SV.conc,hh,Value.ownBlock,Option.some.injEq]at hb
   exact⟨by simp[SObj.occ,hh],hb⟩
 obtain⟨hW',hag⟩:=hi.wi.rowTo hsub (i:=n) (Nat.lt_irrefl n) (xs:=xs++news) (t:=te) (e:=e) (n:=m+len) r3 (fun b hb=>by
  rcases r4 with r4|r4
  ·rw[r4]at hb;cases hb
  ·rw[r4]at hb
   obtain⟨hocc,hs⟩:=hjocc b hb
   refine⟨fun kk oo hk ck=> ?_,?_⟩
   ·rw[←hs]
    exact hi.wi.dist kk j oo _ (hsub kk oo hk) hj (hM' _ (qJ hk)).2 ck hocc
   ·rw[←hs];exact hi.wi.new j _ hj hocc) r5 r2 (jC hscr hscn)
 refine Oc.value hrun ?_
 have hW2:WI c.w0 c.L (ρ.bindV n v') (look ((n,.row e (m+len) (xs++news) te)::M')) (· < n+1) w':=by
  rw[zB];exact hW'.mono fun q hq=>by have hq:q<n∨q=n:=hq;omega
 have hinv:=hi.put (ρ':=ρ.bindV n v') hd hag (Nat.le_succ n) (v:=.opq n) (Nat.lt_succ_self n) hW2 (.inRegion ops r::k)
 rw[yV r2]at hinv
 exact h.go _ _ w' hinv
set_option maxHeartbeats 4000000
theorem Run.sliceRow {c:Cx}(hc:c.ok){T:List (Nat×SV)}{M:List (Nat×SObj)}{n:Nat}{D:List Deferred}{ops:Array Oper}{i:Nat}{r:List Nat}{k:List Item}{R:Ending→World→Prop}{o:Oper}{x y:Operand}{t:TypeId}
  (ho:get ops.toList i=some o) (hop:o.op = .slice t x none (some y) none) (hw:jN ops.toList (look T) o=some true) (hd:okD c.fn.ntmps o.dst=true)
  {j e m:Nat} {xs:List SV} {te:TypeId} (hx:ev (look T) x=some (.opq j)) (hj:look M j=some (.row e m xs te)) {kd:IntKind} {l:Nat} (hy:ev (look T) y=some (.v (.int kd (l:Int)))) (hl:l≤m)
  {ti:TI} {bytes:Nat} (hti:look c.tab t=some ti) (hsh:ti.sh = .slc te e bytes) (he:0<e) (hm:0<m) (M':List (Nat×SObj)) (hM' :∀p∈M',look M p.1=some p.2∧p.1≠j)
  (h:Run c ⟨j5 T o.dst (.opq n),(n,.row e l (xs.take (l*e)) te)::M',n+1,D,.inRegion ops r::k⟩ R):Run c ⟨T,M,n,D,.inRegion ops (i::r)::k⟩ R:=by
 refine⟨fun ρ a w hi=> ?_⟩
 rw[zN,Array.getElem?_toList]at ho
 refine TW.op ho (jA hi.tm hw) ?_
 obtain⟨h1,_⟩:=qU hi.tm hx
 obtain⟨h2,_⟩:=qU hi.tm hy
 have hti:=Tab.ok_look hc.tab hti
 obtain⟨d,hd1,hd2⟩:=hti.desc
 obtain⟨inf,rfl,g2,g3,g4⟩:=sh_desc.2.2.2.2.1 te e bytes (hd2.trans hsh)
 have hund:c.P.underlying t=some (.slice (c.P.elem t)):=by
  rw[hd1]
  simp[Program.elem,hd1]
 have hel:c.P.elem t=te:=by
  have:=hund.symm.trans hd1
  simpa using this
 have hsz:(sizeOf (c.P.elem t)).run c.P w = .ok e w:=by rw[hel,uL g2,g3]
 obtain⟨hjn,hscr,hoff,hlen,hrow⟩:=hi.wi.mem j _ hj
 have hown:=hi.wi.owns hj he
 rcases hrow with⟨hh,h0⟩|⟨cap,sp,hh,hcap,hheap⟩
 ·omega
 have hmc:m≤cap:=by
  rcases hown.2 with h3|⟨g,cap',cur,h3,_,_,h4,_⟩
  ·simp[SV.conc,hh]at h3
  ·simp only[SV.conc,hh,Value.slice.injEq]at h3
   omega
 simp only[SV.conc]at h1 h2
 rw[hh]at h1
 have hrun:(execOp a.eval o).run c.P w = .ok (.value (.slice (some ⟨ρ.s j,0,none⟩) l cap)) w:=by
  have hr:=run_slice_h w t (some ⟨ρ.s j,0,none⟩) m cap hund kd (l:Int) (by omega) (by omega)
  rw[hsz]at hr
  have hr':(Instr.sliceAt t (.slice (some ⟨ρ.s j,0,none⟩) m cap) none (some (.int kd (l:Int))) none).run c.P w = .ok (.slice (some ⟨ρ.s j,0,none⟩) l cap) w:=by
   rw[run_sliceAt_slice w t _ _ _ _ hund,hr]
   simp[tF]
  simp[execOp,hop,h1,h2,hr']
 have ho':w.ownsRow 0 te e (.slice (some ⟨ρ.s j,0,none⟩) l cap) l (SV.concs ρ (xs.take (l*e))):=by
  rcases hown.2 with h3|⟨g,cap',cur,h3,h5,h6,h7,h8,h9,h10⟩
  ·simp[SV.conc,hh]at h3
  simp only[SV.conc,hh,Value.slice.injEq,Option.some.injEq,Addr.mk.injEq,and_true,true_and]at h3
  obtain⟨rfl,rfl⟩:=h3
  have hle:l*e≤m*e:=Nat.mul_le_mul_right e hl
  refine⟨by rw[qV,List.length_take,hlen];omega,.inr ⟨_,_,cur,rfl,h5,h6,by omega,h8,h9,?_⟩⟩
  rw[z9,List.map_take,←z9,←h10,List.take_take]
  congr 1
  omega
 have hsub :∀kk oo,look M' kk=some oo→look M kk=some oo:=fun kk oo hk=>(hM' _ (qJ hk)).1
 have hocc:(SObj.row e m xs te).occ ρ j:=by simp[SObj.occ,hh]
 obtain⟨hW',hag⟩:=hi.wi.rowTo (w':=w) (M1:=look M') hsub (i:=n) (Nat.lt_irrefl n) (v:=.slice (some ⟨ρ.s j,0,none⟩) l cap) (row:=some (ρ.s j)) ⟨rfl,rfl,rfl,Nat.le_refl _,fun _ _ _=>rfl⟩ (fun b hb=>by
  obtain rfl:=Option.some.inj hb
  exact⟨fun kk oo hk ck=>hi.wi.dist kk j oo _ (hsub kk oo hk) hj (hM' _ (qJ hk)).2 ck hocc,hi.wi.new j _ hj hocc⟩)
  (fun g hg=>.inl hg) ho' (xN hscr fun x hx=>List.mem_of_mem_take hx)
 refine Oc.value hrun ?_
 have hW2:WI c.w0 c.L (ρ.bindV n (.slice (some ⟨ρ.s j,0,none⟩) l cap)) (look ((n,.row e l (xs.take (l*e)) te)::M')) (· < n+1) w:=by
  rw[zB];exact hW'.mono fun q hq=>by have hq:q<n∨q=n:=hq;omega
 have hinv:=hi.put (ρ':=ρ.bindV n (.slice (some ⟨ρ.s j,0,none⟩) l cap)) hd hag (Nat.le_succ n) (v:=.opq n) (Nat.lt_succ_self n) hW2 (.inRegion ops r::k)
 rw[yV ho']at hinv
 exact h.go _ _ w hinv
set_option maxHeartbeats 2000000
theorem Run.again {c:Cx}{T T':List (Nat×SV)}{M:List (Nat×SObj)}{n:Nat}{D:List Deferred}{todo:List Item}{R:Ending→World→Prop}(q:Nat){e m:Nat}{vs:List Value}(hq:look M q=some (.rwin e m vs))
  (hT :∀x∈T',look T x.1=some x.2∨(look T x.1=some (.opq q)∧x.2 = .opq n)) (h:Run c ⟨T',(n,.rwin e m vs)::M,n+1,D,todo⟩ R):Run c ⟨T,M,n,D,todo⟩ R:=by
 refine⟨fun ρ a w hi=> ?_⟩
 have hn :¬(n<n):=Nat.lt_irrefl n
 have hag:=Env.oD ρ (ρ.s q) (ρ.o q) (ρ.h q) (S:=(· < n)) hn
 obtain⟨q1,q2,q3⟩:=Env.oE ρ n (ρ.s q) (ρ.o q) (ρ.h q)
 obtain⟨_,_,hh⟩:=hi.wi.mem q _ hq
 have hW':=hi.wi.addR hag (i:=n) (o:=.rwin e m vs) trivial (fun _ _ h=>h) (by
  simp only[SObj.holds,q1,q2,q3]
  exact hh)
 refine h.go (ρ.bindW n (ρ.s q) (ρ.o q) (ρ.h q)) a w ⟨hi.sz,fun t v ht=> ?_,hi.df,?_⟩
 ·rcases hT _ (qJ ht)with h1|⟨h1,h2⟩
  ·obtain⟨g1,g2,g3⟩:=hi.tm t v h1
   exact⟨g1,by rw[jJ hag _ g3];exact g2,SV.sc_mono (fun q hq=>by have hq:q<n:=hq;show q<n+1;omega) _ g3⟩
  ·simp only at h2
   subst h2
   obtain⟨g1,g2,g3⟩:=hi.tm t _ h1
   refine⟨g1,?_,Nat.lt_succ_self n⟩
   rw[g2]
   simp only[SV.conc,q3]
 ·rw[zB]
  exact hW'.mono fun q hq=>by have hq:q<n∨q=n:=hq;show q<n+1;omega
theorem kw {M:List (Nat×SObj)}{k e n m:Nat}{vs:List Value}(h:look M k=some (.rwin e m vs))(h2:Nat.blt k n=true):look M k=some (.rwin e m vs)∧k<n∧(SObj.rwin e m vs).sc (· < n):=⟨h,by simpa[Nat.blt_eq]using h2,trivial⟩
theorem Run.oB {c:Cx}{T T':List (Nat×SV)}{M M':List (Nat×SObj)}{n n':Nat}{D:List Deferred}{todo:List Item}{R:Ending→World→Prop}(h:Run c ⟨T',M',n',D,todo⟩ R)(r:Nat→Nat)(hinj :∀i,i<n' → ∀j,j<n'→i≠j→r i≠r j)(hT:AllP (fun x=>look T x.1=some (x.2.ren r)∧x.2.sc (· < n')) T')
  (hM:AllP (fun x=>look M (r x.1)=some (x.2.ren r)∧x.1<n'∧x.2.sc (· < n')) M') (hL :∀p∈c.L,r p.1=p.1∧p.1<n'):Run c ⟨T,M,n,D,todo⟩ R:=Run.pF r n' hinj hT hM hL h
end Go.Sx
namespace Go.Proofs.Ytnnlpdgnlccbjaa
open Go.Sx
set_option maxRecDepth 100000
set_option maxHeartbeats 16000000
def zF (i N:Nat)(k:Nat):List Int:=if k<i then List.replicate N 0 else []
def rsStep (S:List Syn)(pl:List Int)(m:List Mrk)(F:Nat→List Int)(i:Nat):Nat→List Int:=
 if 0≤pl.getD i (-1)then putF F (pl.getD i (-1)).toNat ((F (pl.getD i (-1)).toNat).set (S.getD i qX).to.toNat (W ((F (pl.getD i (-1)).toNat).getD (S.getD i qX).to.toNat 0+(m.getD i qM).w)))else F
def rsY (S:List Syn)(pl:List Int)(m:List Mrk)(R N j:Nat):Nat→List Int:=(List.range j).foldl (rsStep S pl m) (zF R N)
def rsL (S:List Syn)(pl:List Int)(m:List Mrk)(R N:Nat):Nat→List Int:=rsY S pl m R N pl.length
theorem rsY_succ (S:List Syn)(pl:List Int)(m:List Mrk)(R N j:Nat):rsY S pl m R N (j+1)=rsStep S pl m (rsY S pl m R N j) j:=kN ..
theorem u7 (S:List Syn)(pl:List Int)(m:List Mrk)(R N:Nat) :∀j k,(rsY S pl m R N j k).length=cN R N k
 | 0,k=>by unfold rsY zF cN;simp;split<;>simp
 |j+1,k=>by
  rw[rsY_succ]
  unfold rsStep
  split
  ·unfold putF
   split
   ·subst k;rw[List.length_set];exact u7 S pl m R N j _
   ·exact u7 S pl m R N j _
  ·exact u7 S pl m R N j _
def zS (tk:SV)(inp:Int):List SV:=[.opq 1,ii inp,.opq 2,.opq 4,.opq 5,.opq 6,.opq 7,tk,.opq 3,.opq 8]
theorem rsums_spec (tk inp:Int)(N:List Prm)(S:List Syn)(rs:List Rul)(pl:List Int)(m:List Mrk)(hN:N.length≤1024)(hS:S.length≤8192)(hR:rs.length≤16)(hp:pl.length=S.length)(hm:m.length=S.length)(hp0 :∀i (h:i<pl.length),pl[i]<(rs.length:Int))(ht0 :∀i (h:i<S.length),0≤S[i].to)(ht1 :∀i (h:i<S.length),S[i].to<(N.length:Int)) :
  BSpec Try.prog 72 [.ptr 0 0] [(0,.cells (zS (ii tk) inp) 108),(1,.rwin 8 N.length (N.flatMap Prm.vals)),(2,.rwin 4 S.length (S.flatMap Syn.vals)),(4,.rwin 10 rs.length (rs.flatMap Rul.vals)),(5,.rwin 1 pl.length (qB pl)),(6,.rwin 4 m.length (m.flatMap Mrk.vals))] 41 [0] (.opq 41) [(41,.row 1 rs.length (zT 42 rs.length) 27),(42,.row 1 (cN rs.length N.length 0) ((rsL S pl m rs.length N.length 0).map fun x=>ii x) 3),(43,.row 1 (cN rs.length N.length 1) ((rsL S pl m rs.length N.length 1).map fun x=>ii x) 3),(44,.row 1 (cN rs.length N.length 2) ((rsL S pl m rs.length N.length 2).map fun x=>ii x) 3),(45,.row 1 (cN rs.length N.length 3) ((rsL S pl m rs.length N.length 3).map fun x=>ii x) 3),(46,.row 1 (cN rs.length N.length 4) ((rsL S pl m rs.length N.length 4).map fun x=>ii x) 3),(47,.row 1 (cN rs.length N.length 5) ((rsL S pl m rs.length N.length 5).map fun x=>ii x) 3),(48,.row 1 (cN rs.length N.length 6) ((rsL S pl m rs.length N.length 6).map fun x=>ii x) 3),(49,.row 1 (cN rs.length N.length 7) ((rsL S pl m rs.length N.length 7).map fun x=>ii x) 3),(50,.row 1 (cN rs.length N.length 8) ((rsL S pl m rs.length N.length 8).map fun x=>ii x) 3),(51,.row 1 (cN rs.length N.length 9) ((rsL S pl m rs.length N.length 9).map fun x=>ii x) 3),(52,.row 1 (cN rs.length N.length 10) ((rsL S pl m rs.length N.length 10).map fun x=>ii x) 3),(53,.row 1 (cN rs.length N.length 11) ((rsL S pl m rs.length N.length 11).map fun x=>ii x) 3),(54,.row 1 (cN rs.length N.length 12) ((rsL S pl m rs.length N.length 12).map fun x=>ii x) 3),(55,.row 1 (cN rs.length N.length 13) ((rsL S pl m rs.length N.length 13).map fun x=>ii x) 3),(56,.row 1 (cN rs.length N.length 14) ((rsL S pl m rs.length N.length 14).map fun x=>ii x) 3),(57,.row 1 (cN rs.length N.length 15) ((rsL S pl m rs.length N.length 15).map fun x=>ii x) 3),(0,.cells (zS (ii tk) inp) 108)] 58:=by
 have hc :∀w L' rd,(∀p,rd=some p→p∈L')→Cx.ok ⟨Try.prog,tab,[],72,Try.f72,[],w,L',rd⟩:=fun w L' rd h=>⟨qI,trivial,Try.func72,mixed,h⟩
 refine BSpec.start (tab:=tab) (pf:=[]) (cuts:=[]) Try.func72 rfl ⟨ltb rfl,trivial⟩ rfl fun w L0 plp hL hLB hcov=>Run.r8 (hc w L0 none nofun) 7 _ ?_
 conv=>whnf
 refine Run.p9 (T':=[(0,.ptr 0 0),(3,.opq 42)]) (M':=[(42,.row 1 0 [] 27),(0,.cells (zS (ii tk) inp) 108),(1,.rwin 8 N.length (N.flatMap Prm.vals)),(2,.rwin 4 S.length (S.flatMap Syn.vals)),(4,.rwin 10 rs.length (rs.flatMap Rul.vals)),(5,.rwin 1 pl.length (qB pl)),(6,.rwin 4 m.length (m.flatMap Mrk.vals)),(41,.pin plp)]) 1 27 (AllP.mem ⟨⟨_,rfl,.inl rfl⟩,⟨_,rfl,.inr ⟨rfl,rfl⟩⟩,trivial⟩) (AllP.mem (by repeat first|exact trivial|refine⟨.inl rfl,?_⟩|refine⟨.inr ⟨_,rfl,.inl rfl⟩,?_⟩)) ?_
 refine Run.dummies (T:=[(0,.ptr 0 0),(3,.opq 42)]) 1 3 (AllP.mem ⟨rfl,rfl,trivial⟩) 16 43 _ (AllP.mem ⟨rfl,rfl,rfl,rfl,rfl,rfl,rfl,rfl,trivial⟩) (AllP.mem ⟨(show 42<43 by decide),(show 0<43 by decide),(show 1<43 by decide),(show 2<43 by decide),(show 4<43 by decide),(show 5<43 by decide),(show 6<43 by decide),ltb rfl,trivial⟩) ?_
 refine Run.r8 (hc w L0 none nofun) 10 _ ?_
 conv=>whnf
 refine Run.pF (T':=[(0,.ptr 0 0),(3,.opq 58),(4,ii (((0:Nat):Nat):Int))]) (M':=[(58,.row 1 0 (zT 42 0) 27),(42,.row 1 (cN 0 N.length 0) ((zF 0 N.length 0).map fun x=>ii x) 3),(43,.row 1 (cN 0 N.length 1) ((zF 0 N.length 1).map fun x=>ii x) 3),(44,.row 1 (cN 0 N.length 2) ((zF 0 N.length 2).map fun x=>ii x) 3),(45,.row 1 (cN 0 N.length 3) ((zF 0 N.length 3).map fun x=>ii x) 3),(46,.row 1 (cN 0 N.length 4) ((zF 0 N.length 4).map fun x=>ii x) 3),(47,.row 1 (cN 0 N.length 5) ((zF 0 N.length 5).map fun x=>ii x) 3),(48,.row 1 (cN 0 N.length 6) ((zF 0 N.length 6).map fun x=>ii x) 3),(49,.row 1 (cN 0 N.length 7) ((zF 0 N.length 7).map fun x=>ii x) 3),(50,.row 1 (cN 0 N.length 8) ((zF 0 N.length 8).map fun x=>ii x) 3),(51,.row 1 (cN 0 N.length 9) ((zF 0 N.length 9).map fun x=>ii x) 3),(52,.row 1 (cN 0 N.length 10) ((zF 0 N.length 10).map fun x=>ii x) 3),(53,.row 1 (cN 0 N.length 11) ((zF 0 N.length 11).map fun x=>ii x) 3),(54,.row 1 (cN 0 N.length 12) ((zF 0 N.length 12).map fun x=>ii x) 3),(55,.row 1 (cN 0 N.length 13) ((zF 0 N.length 13).map fun x=>ii x) 3),(56,.row 1 (cN 0 N.length 14) ((zF 0 N.length 14).map fun x=>ii x) 3),(57,.row 1 (cN 0 N.length 15) ((zF 0 N.length 15).map fun x=>ii x) 3),(0,.cells (zS (ii tk) inp) 108),(1,.rwin 8 N.length (N.flatMap Prm.vals)),(2,.rwin 4 S.length (S.flatMap Syn.vals)),(4,.rwin 10 rs.length (rs.flatMap Rul.vals)),(5,.rwin 1 pl.length (qB pl)),(6,.rwin 4 m.length (m.flatMap Mrk.vals)),(41,.pin plp)]) (rq [(42,58),(58,42)]) 62 ?_ ?_ ?_ ?_ ?_
 ·intro i hi j hj hne he
  have inv :∀i,i<62→rq [(42,58),(58,42)] (rq [(42,58),(58,42)] i)=i:=by decide
  exact hne (by rw[←inv i hi,he,inv j hj])
 ·exact⟨⟨rfl,ltb rfl⟩,⟨rfl,ltb rfl⟩,⟨rfl,trivial⟩,trivial⟩
 ·exact(by repeat first|exact trivial|refine⟨⟨rfl,by omega,qO (by omega)⟩,?_⟩|refine⟨⟨rfl,by omega,Os.h _⟩,?_⟩|refine⟨⟨rfl,by omega,qC _ rfl⟩,?_⟩|refine⟨⟨congrArg some (yG hcov (fun i hi=>zC (qZ (B:=41) rfl hi))).symm,by omega,pnx hcov rfl⟩,?_⟩)
 ·intro p hp
  have:=hLB p hp;exact⟨zC (qZ (B:=41) rfl this),by omega⟩
 refine Run.pE (T:=fun i=>[(0,.ptr 0 0),(3,.opq 58),(4,ii ((i:Nat):Int))]) (M:=fun i=>[(58,.row 1 i (zT 42 i) 27),(42,.row 1 (cN i N.length 0) ((zF i N.length 0).map fun x=>ii x) 3),(43,.row 1 (cN i N.length 1) ((zF i N.length 1).map fun x=>ii x) 3),(44,.row 1 (cN i N.length 2) ((zF i N.length 2).map fun x=>ii x) 3),(45,.row 1 (cN i N.length 3) ((zF i N.length 3).map fun x=>ii x) 3),(46,.row 1 (cN i N.length 4) ((zF i N.length 4).map fun x=>ii x) 3),(47,.row 1 (cN i N.length 5) ((zF i N.length 5).map fun x=>ii x) 3),(48,.row 1 (cN i N.length 6) ((zF i N.length 6).map fun x=>ii x) 3),(49,.row 1 (cN i N.length 7) ((zF i N.length 7).map fun x=>ii x) 3),(50,.row 1 (cN i N.length 8) ((zF i N.length 8).map fun x=>ii x) 3),(51,.row 1 (cN i N.length 9) ((zF i N.length 9).map fun x=>ii x) 3),(52,.row 1 (cN i N.length 10) ((zF i N.length 10).map fun x=>ii x) 3),(53,.row 1 (cN i N.length 11) ((zF i N.length 11).map fun x=>ii x) 3),(54,.row 1 (cN i N.length 12) ((zF i N.length 12).map fun x=>ii x) 3),(55,.row 1 (cN i N.length 13) ((zF i N.length 13).map fun x=>ii x) 3),(56,.row 1 (cN i N.length 14) ((zF i N.length 14).map fun x=>ii x) 3),(57,.row 1 (cN i N.length 15) ((zF i N.length 15).map fun x=>ii x) 3),(0,.cells (zS (ii tk) inp) 108),(1,.rwin 8 N.length (N.flatMap Prm.vals)),(2,.rwin 4 S.length (S.flatMap Syn.vals)),(4,.rwin 10 rs.length (rs.flatMap Rul.vals)),(5,.rwin 1 pl.length (qB pl)),(6,.rwin 4 m.length (m.flatMap Mrk.vals)),(41,.pin plp)]) (fun _=>True) rs.length trivial ?_ ?_
 ·intro u hu _ ih
  refine Run.W2 hc ?_
  conv=>whnf
  rw[decide_eq_true (show((u:Nat):Int)<(rs.length:Int)by omega)]
  conv=>whnf
  rw[kK (m:=N.length) rfl rfl rfl rfl rfl rfl (by omega) (by omega),show List.replicate N.length (SV.v (.int .i64 0))=(List.replicate N.length (0:Int)).map fun x=>ii x by simp[ii]]
  conv=>whnf
  refine Run.append (hc w L0 none nofun) rfl rfl rfl rfl rfl rfl rfl rfl rfl rfl rfl rfl rfl rfl rfl (by decide) ⟨by omega,by omega⟩ [(42,.row 1 (cN u N.length 0) ((zF u N.length 0).map fun x=>ii x) 3),(43,.row 1 (cN u N.length 1) ((zF u N.length 1).map fun x=>ii x) 3),(44,.row 1 (cN u N.length 2) ((zF u N.length 2).map fun x=>ii x) 3),(45,.row 1 (cN u N.length 3) ((zF u N.length 3).map fun x=>ii x) 3),(46,.row 1 (cN u N.length 4) ((zF u N.length 4).map fun x=>ii x) 3),(47,.row 1 (cN u N.length 5) ((zF u N.length 5).map fun x=>ii x) 3),(48,.row 1 (cN u N.length 6) ((zF u N.length 6).map fun x=>ii x) 3),(49,.row 1 (cN u N.length 7) ((zF u N.length 7).map fun x=>ii x) 3),(50,.row 1 (cN u N.length 8) ((zF u N.length 8).map fun x=>ii x) 3),(51,.row 1 (cN u N.length 9) ((zF u N.length 9).map fun x=>ii x) 3),(52,.row 1 (cN u N.length 10) ((zF u N.length 10).map fun x=>ii x) 3),(53,.row 1 (cN u N.length 11) ((zF u N.length 11).map fun x=>ii x) 3),(54,.row 1 (cN u N.length 12) ((zF u N.length 12).map fun x=>ii x) 3),(55,.row 1 (cN u N.length 13) ((zF u N.length 13).map fun x=>ii x) 3),(56,.row 1 (cN u N.length 14) ((zF u N.length 14).map fun x=>ii x) 3),(57,.row 1 (cN u N.length 15) ((zF u N.length 15).map fun x=>ii x) 3),(0,.cells (zS (ii tk) inp) 108),(1,.rwin 8 N.length (N.flatMap Prm.vals)),(2,.rwin 4 S.length (S.flatMap Syn.vals)),(4,.rwin 10 rs.length (rs.flatMap Rul.vals)),(5,.rwin 1 pl.length (qB pl)),(6,.rwin 4 m.length (m.flatMap Mrk.vals)),(41,.pin plp),(62,.row 1 N.length ((List.replicate N.length (0:Int)).map fun x=>ii x) 3)] (AllP.mem (by repeat first|exact trivial|refine⟨⟨rfl,(neb rfl)⟩,?_⟩)) ?_
  refine Run.W2 hc ?_
  conv=>whnf
  have hu16:u<16:=by omega
  refine Run.oB (ih trivial) (rq [(58,64),(64,58),(42+u,62),(62,42+u)]) ?_ ?_ ?_ ?_
  ·intro i hi j hj hne he
   have inv :∀i,i<62→rq [(58,64),(64,58),(42+u,62),(62,42+u)] (rq [(58,64),(64,58),(42+u,62),(62,42+u)] i)=i:=by rcases lt16 hu16 with rfl|rfl|rfl|rfl|rfl|rfl|rfl|rfl|rfl|rfl|rfl|rfl|rfl|rfl|rfl|rfl<;>decide
   exact hne (by rw[←inv i hi,he,inv j hj])
  ·rcases lt16 hu16 with rfl|rfl|rfl|rfl|rfl|rfl|rfl|rfl|rfl|rfl|rfl|rfl|rfl|rfl|rfl|rfl<;>exact⟨⟨rfl,ltb rfl⟩,⟨rfl,ltb rfl⟩,⟨rfl,trivial⟩,trivial⟩
  ·rcases lt16 hu16 with rfl|rfl|rfl|rfl|rfl|rfl|rfl|rfl|rfl|rfl|rfl|rfl|rfl|rfl|rfl|rfl<;>exact(by repeat first|exact trivial|refine⟨⟨rfl,by omega,qO (by omega)⟩,?_⟩|refine⟨⟨rfl,by omega,qC _ rfl⟩,?_⟩|refine⟨⟨rfl,by omega,Os.h _⟩,?_⟩|refine⟨⟨congrArg some (ofx (o:=.row _ _ (List.map _ _) _) (qK _ _)).symm,by omega,Os.h _⟩,?_⟩|refine⟨⟨congrArg some (yG hcov (fun i hi=>zC (qZ (B:=41) rfl hi))).symm,by omega,pnx hcov rfl⟩,?_⟩)
  ·intro p hp
   have:=hLB p hp;rcases lt16 hu16 with rfl|rfl|rfl|rfl|rfl|rfl|rfl|rfl|rfl|rfl|rfl|rfl|rfl|rfl|rfl|rfl<;>exact⟨zC (qZ (B:=41) rfl this),by omega⟩
 ·intro _
  refine Run.W2 hc ?_
  conv=>whnf
  rw[decide_eq_false (show ¬((rs.length:Nat):Int)<(rs.length:Int)by omega)]
  conv=>whnf
  refine Run.lJ (T:=fun i=>[(0,.ptr 0 0),(3,.opq 58),(5,ii ((i:Nat):Int))]) (M:=fun i=>[(58,.row 1 rs.length (zT 42 rs.length) 27),(42,.row 1 (cN rs.length N.length 0) ((rsY S pl m rs.length N.length i 0).map fun x=>ii x) 3),(43,.row 1 (cN rs.length N.length 1) ((rsY S pl m rs.length N.length i 1).map fun x=>ii x) 3),(44,.row 1 (cN rs.length N.length 2) ((rsY S pl m rs.length N.length i 2).map fun x=>ii x) 3),(45,.row 1 (cN rs.length N.length 3) ((rsY S pl m rs.length N.length i 3).map fun x=>ii x) 3),(46,.row 1 (cN rs.length N.length 4) ((rsY S pl m rs.length N.length i 4).map fun x=>ii x) 3),(47,.row 1 (cN rs.length N.length 5) ((rsY S pl m rs.length N.length i 5).map fun x=>ii x) 3),(48,.row 1 (cN rs.length N.length 6) ((rsY S pl m rs.length N.length i 6).map fun x=>ii x) 3),(49,.row 1 (cN rs.length N.length 7) ((rsY S pl m rs.length N.length i 7).map fun x=>ii x) 3),(50,.row 1 (cN rs.length N.length 8) ((rsY S pl m rs.length N.length i 8).map fun x=>ii x) 3),(51,.row 1 (cN rs.length N.length 9) ((rsY S pl m rs.length N.length i 9).map fun x=>ii x) 3),(52,.row 1 (cN rs.length N.length 10) ((rsY S pl m rs.length N.length i 10).map fun x=>ii x) 3),(53,.row 1 (cN rs.length N.length 11) ((rsY S pl m rs.length N.length i 11).map fun x=>ii x) 3),(54,.row 1 (cN rs.length N.length 12) ((rsY S pl m rs.length N.length i 12).map fun x=>ii x) 3),(55,.row 1 (cN rs.length N.length 13) ((rsY S pl m rs.length N.length i 13).map fun x=>ii x) 3),(56,.row 1 (cN rs.length N.length 14) ((rsY S pl m rs.length N.length i 14).map fun x=>ii x) 3),(57,.row 1 (cN rs.length N.length 15) ((rsY S pl m rs.length N.length i 15).map fun x=>ii x) 3),(0,.cells (zS (ii tk) inp) 108),(1,.rwin 8 N.length (N.flatMap Prm.vals)),(2,.rwin 4 S.length (S.flatMap Syn.vals)),(4,.rwin 10 rs.length (rs.flatMap Rul.vals)),(5,.rwin 1 pl.length (qB pl)),(6,.rwin 4 m.length (m.flatMap Mrk.vals)),(41,.pin plp)]) 62 (fun _=>True) pl.length ⟨⟨rfl,ltb rfl⟩,⟨rfl,ltb rfl⟩,⟨rfl,trivial⟩,trivial⟩ (by repeat first|exact trivial|refine⟨⟨rfl,by omega,qO (by omega)⟩,?_⟩|refine⟨⟨rfl,by omega,Os.h _⟩,?_⟩|refine⟨⟨rfl,by omega,qC _ rfl⟩,?_⟩|refine⟨⟨rfl,by omega,pnx hcov rfl⟩,?_⟩) (lbx hLB rfl) trivial ?_ ?_
  ·intro u hu _ ih
   refine Run.W2 hc ?_
   conv=>whnf
   rw[decide_eq_true (show((u:Nat):Int)<(pl.length:Int)by omega)]
   conv=>whnf
   refine⟨by omega,?_⟩
   conv=>whnf
   rw[qY u rfl rfl rfl rfl (by rw[qE,Nat.mul_one]) (zA hu)]
   conv=>whnf
   have hpu:=hp0 u hu
   have hpd:pl.getD u (-1)=pl[u]:=by simp[List.getD_eq_getElem?_getD,hu]
   have hu2:u<S.length:=by omega
   have hu3:u<m.length:=by omega
   have hsd:S.getD u qX=S[u]:=by simp[List.getD_eq_getElem?_getD,hu2]
   have hmd:m.getD u qM=m[u]:=by simp[List.getD_eq_getElem?_getD,hu3]
   have hys:=rsY_succ S pl m rs.length N.length u
   have hlen:=u7 S pl m rs.length N.length u
   obtain⟨y,hy⟩ :∃y,S[u]=y:=⟨_,rfl⟩
   obtain⟨mk,hmk⟩ :∃mk,m[u]=mk:=⟨_,rfl⟩
   have hy0:=ht0 u hu2
   have hy1:=ht1 u hu2
   rw[hy]at hsd hy0 hy1
   rw[hmk]at hmd
   obtain⟨q,hq⟩ :∃q,pl[u]=q:=⟨_,rfl⟩
   rw[hq]at hpu hpd ⊢
   unfold rsStep at hys
   rw[hpd,hsd,hmd]at hys
   obtain⟨F,hF⟩ :∃F,rsY S pl m rs.length N.length u=F:=⟨_,rfl⟩
   rw[hF]at hys hlen ⊢
   cases hq0:decide (0≤q)
   case false=>
    conv=>whnf
    rw[if_neg (of_decide_eq_false hq0)]at hys
    rw[hys]at ih
    exact Run.tH (ih trivial) ⟨⟨rfl,ltb rfl⟩,⟨rfl,ltb rfl⟩,⟨wsx (by omega),trivial⟩,trivial⟩ (by repeat first|exact trivial|refine⟨⟨rfl,by omega,qO (by omega)⟩,?_⟩|refine⟨⟨rfl,by omega,Os.h _⟩,?_⟩|refine⟨⟨rfl,by omega,qC _ rfl⟩,?_⟩|refine⟨⟨rfl,by omega,pnx hcov rfl⟩,?_⟩) (lbx hLB rfl)
   rw[if_pos (of_decide_eq_true hq0)]at hys
   obtain⟨k,rfl⟩:=Int.eq_ofNat_of_zero_le (of_decide_eq_true hq0)
   have hkR:k<rs.length:=by omega
   rw[show((k:Nat):Int).toNat=k from Int.toNat_natCast k]at hys
   obtain⟨p,hp'⟩:=Int.eq_ofNat_of_zero_le hy0
   rw[hp',show((p:Nat):Int).toNat=p from Int.toNat_natCast p]at hys
   have hpN:p<N.length:=by omega
   have hFk:(F k).length=N.length:=by rw[hlen];unfold cN;rw[if_pos hkR]
   have hgk:((F k).map fun x=>ii x)[p]? = some (ii ((F k).getD p 0)):=by
    rw[List.getElem?_map,List.getElem?_eq_getElem (by omega),List.getD_eq_getElem?_getD,List.getElem?_eq_getElem (by omega)];rfl
   have htk:(zT 42 rs.length)[k]? = some (.opq (42+k)):=tabX_get hkR
   have hk16:k<16:=by omega
   have hcnt:cN rs.length N.length k=N.length:=by unfold cN;rw[if_pos hkR]
   rw[hys]at ih
   conv=>whnf
   refine Run.draw (hc w L0 none nofun) 32 ?_
   rw[show qD 0 32=qD 0 7++(qD 7 1++(qD 8 1++(qD 9 1++(qD 10 7++(qD 17 2++(qD 19 1++(qD 20 1++(qD 21 6++(qD 27 2++(qD 29 2++qD 31 1))))))))))from rfl]
   simp only[qN]
   conv=>whnf
   refine⟨by omega,?_⟩
   conv=>whnf
   rw[qY u rfl rfl rfl rfl (by rw[qE,Nat.mul_one]) (zA hu),hq]
   conv=>whnf
   refine⟨by omega,?_⟩
   conv=>whnf
   rw[q9 k rfl rfl rfl rfl (by rw[qE,Nat.mul_one]) htk]
   conv=>whnf
   refine⟨by omega,?_⟩
   conv=>whnf
   rw[qP (f:=Syn.vals) (l:=S) u 1 rfl rfl rfl rfl Syn.vlen (by rw[qE]) hu2 (by decide) rfl,hy,hp']
   conv=>whnf
   rcases lt16 hk16 with rfl|rfl|rfl|rfl|rfl|rfl|rfl|rfl|rfl|rfl|rfl|rfl|rfl|rfl|rfl|rfl
   ·refine⟨by omega,?_⟩
    conv=>whnf
    rw[q9 p rfl rfl rfl rfl (by rw[qE,Nat.mul_one]) hgk]
    conv=>whnf
    refine⟨by omega,?_⟩
    conv=>whnf
    rw[qP (f:=Mrk.vals) (l:=m) u 0 rfl rfl rfl rfl Mrk.vlen (by rw[qE]) hu3 (by decide) rfl,hmk]
    conv=>whnf
    refine⟨by omega,?_⟩
    conv=>whnf
    rw[zJ p rfl rfl rfl rfl rfl (by rw[qE,Nat.mul_one]) (by rw[List.length_map];omega) rfl rfl]
    conv=>whnf
    refine⟨by kernel_rfl,?_⟩
    refine Run.W2 hc ?_
    conv=>whnf
    exact Run.tH (ih trivial) ⟨⟨rfl,ltb rfl⟩,⟨rfl,ltb rfl⟩,⟨wsx (by omega),trivial⟩,trivial⟩ (by repeat first|exact trivial|refine⟨⟨rfl,by omega,qO (by omega)⟩,?_⟩|refine⟨⟨rfl,by omega,Os.h _⟩,?_⟩|refine⟨⟨rfl,by omega,qC _ rfl⟩,?_⟩|refine⟨⟨rfl,by omega,pnx hcov rfl⟩,?_⟩|refine⟨⟨congrArg some (by rw[show(putF F 0 ((F 0).set p (W ((F 0).getD p 0+mk.w))) 0).map (fun x=>ii x)=((F 0).map fun x=>ii x).set p (ii (W ((F 0).getD p 0+mk.w)))by rw[←List.map_set];rfl];rfl),by omega,Os.h _⟩,?_⟩) (lbx hLB rfl)
   ·refine⟨by omega,?_⟩
    conv=>whnf
    rw[q9 p rfl rfl rfl rfl (by rw[qE,Nat.mul_one]) hgk]
    conv=>whnf
    refine⟨by omega,?_⟩
    conv=>whnf
    rw[qP (f:=Mrk.vals) (l:=m) u 0 rfl rfl rfl rfl Mrk.vlen (by rw[qE]) hu3 (by decide) rfl,hmk]
    conv=>whnf
    refine⟨by omega,?_⟩
    conv=>whnf
    rw[zJ p rfl rfl rfl rfl rfl (by rw[qE,Nat.mul_one]) (by rw[List.length_map];omega) rfl rfl]
    conv=>whnf
    refine⟨by kernel_rfl,?_⟩
    refine Run.W2 hc ?_
    conv=>whnf
    exact Run.tH (ih trivial) ⟨⟨rfl,ltb rfl⟩,⟨rfl,ltb rfl⟩,⟨wsx (by omega),trivial⟩,trivial⟩ (by repeat first|exact trivial|refine⟨⟨rfl,by omega,qO (by omega)⟩,?_⟩|refine⟨⟨rfl,by omega,Os.h _⟩,?_⟩|refine⟨⟨rfl,by omega,qC _ rfl⟩,?_⟩|refine⟨⟨rfl,by omega,pnx hcov rfl⟩,?_⟩|refine⟨⟨congrArg some (by rw[show(putF F 1 ((F 1).set p (W ((F 1).getD p 0+mk.w))) 1).map (fun x=>ii x)=((F 1).map fun x=>ii x).set p (ii (W ((F 1).getD p 0+mk.w)))by rw[←List.map_set];rfl];rfl),by omega,Os.h _⟩,?_⟩) (lbx hLB rfl)
   ·refine⟨by omega,?_⟩
    conv=>whnf
    rw[q9 p rfl rfl rfl rfl (by rw[qE,Nat.mul_one]) hgk]
    conv=>whnf
    refine⟨by omega,?_⟩
    conv=>whnf
    rw[qP (f:=Mrk.vals) (l:=m) u 0 rfl rfl rfl rfl Mrk.vlen (by rw[qE]) hu3 (by decide) rfl,hmk]
    conv=>whnf
    refine⟨by omega,?_⟩
    conv=>whnf
    rw[zJ p rfl rfl rfl rfl rfl (by rw[qE,Nat.mul_one]) (by rw[List.length_map];omega) rfl rfl]
    conv=>whnf
    refine⟨by kernel_rfl,?_⟩
    refine Run.W2 hc ?_
    conv=>whnf
    exact Run.tH (ih trivial) ⟨⟨rfl,ltb rfl⟩,⟨rfl,ltb rfl⟩,⟨wsx (by omega),trivial⟩,trivial⟩ (by repeat first|exact trivial|refine⟨⟨rfl,by omega,qO (by omega)⟩,?_⟩|refine⟨⟨rfl,by omega,Os.h _⟩,?_⟩|refine⟨⟨rfl,by omega,qC _ rfl⟩,?_⟩|refine⟨⟨rfl,by omega,pnx hcov rfl⟩,?_⟩|refine⟨⟨congrArg some (by rw[show(putF F 2 ((F 2).set p (W ((F 2).getD p 0+mk.w))) 2).map (fun x=>ii x)=((F 2).map fun x=>ii x).set p (ii (W ((F 2).getD p 0+mk.w)))by rw[←List.map_set];rfl];rfl),by omega,Os.h _⟩,?_⟩) (lbx hLB rfl)
   ·refine⟨by omega,?_⟩
    conv=>whnf
    rw[q9 p rfl rfl rfl rfl (by rw[qE,Nat.mul_one]) hgk]
    conv=>whnf
    refine⟨by omega,?_⟩
    conv=>whnf
    rw[qP (f:=Mrk.vals) (l:=m) u 0 rfl rfl rfl rfl Mrk.vlen (by rw[qE]) hu3 (by decide) rfl,hmk]
    conv=>whnf
    refine⟨by omega,?_⟩
    conv=>whnf
    rw[zJ p rfl rfl rfl rfl rfl (by rw[qE,Nat.mul_one]) (by rw[List.length_map];omega) rfl rfl]
    conv=>whnf
    refine⟨by kernel_rfl,?_⟩
    refine Run.W2 hc ?_
    conv=>whnf
    exact Run.tH (ih trivial) ⟨⟨rfl,ltb rfl⟩,⟨rfl,ltb rfl⟩,⟨wsx (by omega),trivial⟩,trivial⟩ (by repeat first|exact trivial|refine⟨⟨rfl,by omega,qO (by omega)⟩,?_⟩|refine⟨⟨rfl,by omega,Os.h _⟩,?_⟩|refine⟨⟨rfl,by omega,qC _ rfl⟩,?_⟩|refine⟨⟨rfl,by omega,pnx hcov rfl⟩,?_⟩|refine⟨⟨congrArg some (by rw[show(putF F 3 ((F 3).set p (W ((F 3).getD p 0+mk.w))) 3).map (fun x=>ii x)=((F 3).map fun x=>ii x).set p (ii (W ((F 3).getD p 0+mk.w)))by rw[←List.map_set];rfl];rfl),by omega,Os.h _⟩,?_⟩) (lbx hLB rfl)
   ·refine⟨by omega,?_⟩
    conv=>whnf
    rw[q9 p rfl rfl rfl rfl (by rw[qE,Nat.mul_one]) hgk]
    conv=>whnf
    refine⟨by omega,?_⟩
    conv=>whnf
    rw[qP (f:=Mrk.vals) (l:=m) u 0 rfl rfl rfl rfl Mrk.vlen (by rw[qE]) hu3 (by decide) rfl,hmk]
    conv=>whnf
    refine⟨by omega,?_⟩
    conv=>whnf
    rw[zJ p rfl rfl rfl rfl rfl (by rw[qE,Nat.mul_one]) (by rw[List.length_map];omega) rfl rfl]
    conv=>whnf
    refine⟨by kernel_rfl,?_⟩
    refine Run.W2 hc ?_
    conv=>whnf
    exact Run.tH (ih trivial) ⟨⟨rfl,ltb rfl⟩,⟨rfl,ltb rfl⟩,⟨wsx (by omega),trivial⟩,trivial⟩ (by repeat first|exact trivial|refine⟨⟨rfl,by omega,qO (by omega)⟩,?_⟩|refine⟨⟨rfl,by omega,Os.h _⟩,?_⟩|refine⟨⟨rfl,by omega,qC _ rfl⟩,?_⟩|refine⟨⟨rfl,by omega,pnx hcov rfl⟩,?_⟩|refine⟨⟨congrArg some (by rw[show(putF F 4 ((F 4).set p (W ((F 4).getD p 0+mk.w))) 4).map (fun x=>ii x)=((F 4).map fun x=>ii x).set p (ii (W ((F 4).getD p 0+mk.w)))by rw[←List.map_set];rfl];rfl),by omega,Os.h _⟩,?_⟩) (lbx hLB rfl)
   ·refine⟨by omega,?_⟩
    conv=>whnf
    rw[q9 p rfl rfl rfl rfl (by rw[qE,Nat.mul_one]) hgk]
    conv=>whnf
    refine⟨by omega,?_⟩
    conv=>whnf
    rw[qP (f:=Mrk.vals) (l:=m) u 0 rfl rfl rfl rfl Mrk.vlen (by rw[qE]) hu3 (by decide) rfl,hmk]
    conv=>whnf
    refine⟨by omega,?_⟩
    conv=>whnf
    rw[zJ p rfl rfl rfl rfl rfl (by rw[qE,Nat.mul_one]) (by rw[List.length_map];omega) rfl rfl]
    conv=>whnf
    refine⟨by kernel_rfl,?_⟩
    refine Run.W2 hc ?_
    conv=>whnf
    exact Run.tH (ih trivial) ⟨⟨rfl,ltb rfl⟩,⟨rfl,ltb rfl⟩,⟨wsx (by omega),trivial⟩,trivial⟩ (by repeat first|exact trivial|refine⟨⟨rfl,by omega,qO (by omega)⟩,?_⟩|refine⟨⟨rfl,by omega,Os.h _⟩,?_⟩|refine⟨⟨rfl,by omega,qC _ rfl⟩,?_⟩|refine⟨⟨rfl,by omega,pnx hcov rfl⟩,?_⟩|refine⟨⟨congrArg some (by rw[show(putF F 5 ((F 5).set p (W ((F 5).getD p 0+mk.w))) 5).map (fun x=>ii x)=((F 5).map fun x=>ii x).set p (ii (W ((F 5).getD p 0+mk.w)))by rw[←List.map_set];rfl];rfl),by omega,Os.h _⟩,?_⟩) (lbx hLB rfl)
   ·refine⟨by omega,?_⟩
    conv=>whnf
    rw[q9 p rfl rfl rfl rfl (by rw[qE,Nat.mul_one]) hgk]
    conv=>whnf
    refine⟨by omega,?_⟩
    conv=>whnf
    rw[qP (f:=Mrk.vals) (l:=m) u 0 rfl rfl rfl rfl Mrk.vlen (by rw[qE]) hu3 (by decide) rfl,hmk]
    conv=>whnf
    refine⟨by omega,?_⟩
    conv=>whnf
    rw[zJ p rfl rfl rfl rfl rfl (by rw[qE,Nat.mul_one]) (by rw[List.length_map];omega) rfl rfl]
    conv=>whnf
    refine⟨by kernel_rfl,?_⟩
    refine Run.W2 hc ?_
    conv=>whnf
    exact Run.tH (ih trivial) ⟨⟨rfl,ltb rfl⟩,⟨rfl,ltb rfl⟩,⟨wsx (by omega),trivial⟩,trivial⟩ (by repeat first|exact trivial|refine⟨⟨rfl,by omega,qO (by omega)⟩,?_⟩|refine⟨⟨rfl,by omega,Os.h _⟩,?_⟩|refine⟨⟨rfl,by omega,qC _ rfl⟩,?_⟩|refine⟨⟨rfl,by omega,pnx hcov rfl⟩,?_⟩|refine⟨⟨congrArg some (by rw[show(putF F 6 ((F 6).set p (W ((F 6).getD p 0+mk.w))) 6).map (fun x=>ii x)=((F 6).map fun x=>ii x).set p (ii (W ((F 6).getD p 0+mk.w)))by rw[←List.map_set];rfl];rfl),by omega,Os.h _⟩,?_⟩) (lbx hLB rfl)
   ·refine⟨by omega,?_⟩
    conv=>whnf
    rw[q9 p rfl rfl rfl rfl (by rw[qE,Nat.mul_one]) hgk]
    conv=>whnf
    refine⟨by omega,?_⟩
    conv=>whnf
    rw[qP (f:=Mrk.vals) (l:=m) u 0 rfl rfl rfl rfl Mrk.vlen (by rw[qE]) hu3 (by decide) rfl,hmk]
    conv=>whnf
    refine⟨by omega,?_⟩
    conv=>whnf
    rw[zJ p rfl rfl rfl rfl rfl (by rw[qE,Nat.mul_one]) (by rw[List.length_map];omega) rfl rfl]
    conv=>whnf
    refine⟨by kernel_rfl,?_⟩
    refine Run.W2 hc ?_
    conv=>whnf
    exact Run.tH (ih trivial) ⟨⟨rfl,ltb rfl⟩,⟨rfl,ltb rfl⟩,⟨wsx (by omega),trivial⟩,trivial⟩ (by repeat first|exact trivial|refine⟨⟨rfl,by omega,qO (by omega)⟩,?_⟩|refine⟨⟨rfl,by omega,Os.h _⟩,?_⟩|refine⟨⟨rfl,by omega,qC _ rfl⟩,?_⟩|refine⟨⟨rfl,by omega,pnx hcov rfl⟩,?_⟩|refine⟨⟨congrArg some (by rw[show(putF F 7 ((F 7).set p (W ((F 7).getD p 0+mk.w))) 7).map (fun x=>ii x)=((F 7).map fun x=>ii x).set p (ii (W ((F 7).getD p 0+mk.w)))by rw[←List.map_set];rfl];rfl),by omega,Os.h _⟩,?_⟩) (lbx hLB rfl)
   ·refine⟨by omega,?_⟩
    conv=>whnf
    rw[q9 p rfl rfl rfl rfl (by rw[qE,Nat.mul_one]) hgk]
    conv=>whnf
    refine⟨by omega,?_⟩
    conv=>whnf
    rw[qP (f:=Mrk.vals) (l:=m) u 0 rfl rfl rfl rfl Mrk.vlen (by rw[qE]) hu3 (by decide) rfl,hmk]
    conv=>whnf
    refine⟨by omega,?_⟩
    conv=>whnf
    rw[zJ p rfl rfl rfl rfl rfl (by rw[qE,Nat.mul_one]) (by rw[List.length_map];omega) rfl rfl]
    conv=>whnf
    refine⟨by kernel_rfl,?_⟩
    refine Run.W2 hc ?_
    conv=>whnf
    exact Run.tH (ih trivial) ⟨⟨rfl,ltb rfl⟩,⟨rfl,ltb rfl⟩,⟨wsx (by omega),trivial⟩,trivial⟩ (by repeat first|exact trivial|refine⟨⟨rfl,by omega,qO (by omega)⟩,?_⟩|refine⟨⟨rfl,by omega,Os.h _⟩,?_⟩|refine⟨⟨rfl,by omega,qC _ rfl⟩,?_⟩|refine⟨⟨rfl,by omega,pnx hcov rfl⟩,?_⟩|refine⟨⟨congrArg some (by rw[show(putF F 8 ((F 8).set p (W ((F 8).getD p 0+mk.w))) 8).map (fun x=>ii x)=((F 8).map fun x=>ii x).set p (ii (W ((F 8).getD p 0+mk.w)))by rw[←List.map_set];rfl];rfl),by omega,Os.h _⟩,?_⟩) (lbx hLB rfl)
   ·refine⟨by omega,?_⟩
    conv=>whnf
    rw[q9 p rfl rfl rfl rfl (by rw[qE,Nat.mul_one]) hgk]
    conv=>whnf
    refine⟨by omega,?_⟩
    conv=>whnf
    rw[qP (f:=Mrk.vals) (l:=m) u 0 rfl rfl rfl rfl Mrk.vlen (by rw[qE]) hu3 (by decide) rfl,hmk]
    conv=>whnf
    refine⟨by omega,?_⟩
    conv=>whnf
    rw[zJ p rfl rfl rfl rfl rfl (by rw[qE,Nat.mul_one]) (by rw[List.length_map];omega) rfl rfl]
    conv=>whnf
    refine⟨by kernel_rfl,?_⟩
    refine Run.W2 hc ?_
    conv=>whnf
    exact Run.tH (ih trivial) ⟨⟨rfl,ltb rfl⟩,⟨rfl,ltb rfl⟩,⟨wsx (by omega),trivial⟩,trivial⟩ (by repeat first|exact trivial|refine⟨⟨rfl,by omega,qO (by omega)⟩,?_⟩|refine⟨⟨rfl,by omega,Os.h _⟩,?_⟩|refine⟨⟨rfl,by omega,qC _ rfl⟩,?_⟩|refine⟨⟨rfl,by omega,pnx hcov rfl⟩,?_⟩|refine⟨⟨congrArg some (by rw[show(putF F 9 ((F 9).set p (W ((F 9).getD p 0+mk.w))) 9).map (fun x=>ii x)=((F 9).map fun x=>ii x).set p (ii (W ((F 9).getD p 0+mk.w)))by rw[←List.map_set];rfl];rfl),by omega,Os.h _⟩,?_⟩) (lbx hLB rfl)
   ·refine⟨by omega,?_⟩
    conv=>whnf
    rw[q9 p rfl rfl rfl rfl (by rw[qE,Nat.mul_one]) hgk]
    conv=>whnf
    refine⟨by omega,?_⟩
    conv=>whnf
    rw[qP (f:=Mrk.vals) (l:=m) u 0 rfl rfl rfl rfl Mrk.vlen (by rw[qE]) hu3 (by decide) rfl,hmk]
    conv=>whnf
    refine⟨by omega,?_⟩
    conv=>whnf
    rw[zJ p rfl rfl rfl rfl rfl (by rw[qE,Nat.mul_one]) (by rw[List.length_map];omega) rfl rfl]
    conv=>whnf
    refine⟨by kernel_rfl,?_⟩
    refine Run.W2 hc ?_
    conv=>whnf
    exact Run.tH (ih trivial) ⟨⟨rfl,ltb rfl⟩,⟨rfl,ltb rfl⟩,⟨wsx (by omega),trivial⟩,trivial⟩ (by repeat first|exact trivial|refine⟨⟨rfl,by omega,qO (by omega)⟩,?_⟩|refine⟨⟨rfl,by omega,Os.h _⟩,?_⟩|refine⟨⟨rfl,by omega,qC _ rfl⟩,?_⟩|refine⟨⟨rfl,by omega,pnx hcov rfl⟩,?_⟩|refine⟨⟨congrArg some (by rw[show(putF F 10 ((F 10).set p (W ((F 10).getD p 0+mk.w))) 10).map (fun x=>ii x)=((F 10).map fun x=>ii x).set p (ii (W ((F 10).getD p 0+mk.w)))by rw[←List.map_set];rfl];rfl),by omega,Os.h _⟩,?_⟩) (lbx hLB rfl)
   ·refine⟨by omega,?_⟩
    conv=>whnf
    rw[q9 p rfl rfl rfl rfl (by rw[qE,Nat.mul_one]) hgk]
    conv=>whnf
    refine⟨by omega,?_⟩
    conv=>whnf
    rw[qP (f:=Mrk.vals) (l:=m) u 0 rfl rfl rfl rfl Mrk.vlen (by rw[qE]) hu3 (by decide) rfl,hmk]
    conv=>whnf
    refine⟨by omega,?_⟩
    conv=>whnf
    rw[zJ p rfl rfl rfl rfl rfl (by rw[qE,Nat.mul_one]) (by rw[List.length_map];omega) rfl rfl]
    conv=>whnf
    refine⟨by kernel_rfl,?_⟩
    refine Run.W2 hc ?_
    conv=>whnf
    exact Run.tH (ih trivial) ⟨⟨rfl,ltb rfl⟩,⟨rfl,ltb rfl⟩,⟨wsx (by omega),trivial⟩,trivial⟩ (by repeat first|exact trivial|refine⟨⟨rfl,by omega,qO (by omega)⟩,?_⟩|refine⟨⟨rfl,by omega,Os.h _⟩,?_⟩|refine⟨⟨rfl,by omega,qC _ rfl⟩,?_⟩|refine⟨⟨rfl,by omega,pnx hcov rfl⟩,?_⟩|refine⟨⟨congrArg some (by rw[show(putF F 11 ((F 11).set p (W ((F 11).getD p 0+mk.w))) 11).map (fun x=>ii x)=((F 11).map fun x=>ii x).set p (ii (W ((F 11).getD p 0+mk.w)))by rw[←List.map_set];rfl];rfl),by omega,Os.h _⟩,?_⟩) (lbx hLB rfl)
   ·refine⟨by omega,?_⟩
    conv=>whnf
    rw[q9 p rfl rfl rfl rfl (by rw[qE,Nat.mul_one]) hgk]
    conv=>whnf
    refine⟨by omega,?_⟩
    conv=>whnf
    rw[qP (f:=Mrk.vals) (l:=m) u 0 rfl rfl rfl rfl Mrk.vlen (by rw[qE]) hu3 (by decide) rfl,hmk]
    conv=>whnf
    refine⟨by omega,?_⟩
    conv=>whnf
    rw[zJ p rfl rfl rfl rfl rfl (by rw[qE,Nat.mul_one]) (by rw[List.length_map];omega) rfl rfl]
    conv=>whnf
    refine⟨by kernel_rfl,?_⟩
    refine Run.W2 hc ?_
    conv=>whnf
    exact Run.tH (ih trivial) ⟨⟨rfl,ltb rfl⟩,⟨rfl,ltb rfl⟩,⟨wsx (by omega),trivial⟩,trivial⟩ (by repeat first|exact trivial|refine⟨⟨rfl,by omega,qO (by omega)⟩,?_⟩|refine⟨⟨rfl,by omega,Os.h _⟩,?_⟩|refine⟨⟨rfl,by omega,qC _ rfl⟩,?_⟩|refine⟨⟨rfl,by omega,pnx hcov rfl⟩,?_⟩|refine⟨⟨congrArg some (by rw[show(putF F 12 ((F 12).set p (W ((F 12).getD p 0+mk.w))) 12).map (fun x=>ii x)=((F 12).map fun x=>ii x).set p (ii (W ((F 12).getD p 0+mk.w)))by rw[←List.map_set];rfl];rfl),by omega,Os.h _⟩,?_⟩) (lbx hLB rfl)
   ·refine⟨by omega,?_⟩
    conv=>whnf
    rw[q9 p rfl rfl rfl rfl (by rw[qE,Nat.mul_one]) hgk]
    conv=>whnf
    refine⟨by omega,?_⟩
    conv=>whnf
    rw[qP (f:=Mrk.vals) (l:=m) u 0 rfl rfl rfl rfl Mrk.vlen (by rw[qE]) hu3 (by decide) rfl,hmk]
    conv=>whnf
    refine⟨by omega,?_⟩
    conv=>whnf
    rw[zJ p rfl rfl rfl rfl rfl (by rw[qE,Nat.mul_one]) (by rw[List.length_map];omega) rfl rfl]
    conv=>whnf
    refine⟨by kernel_rfl,?_⟩
    refine Run.W2 hc ?_
    conv=>whnf
    exact Run.tH (ih trivial) ⟨⟨rfl,ltb rfl⟩,⟨rfl,ltb rfl⟩,⟨wsx (by omega),trivial⟩,trivial⟩ (by repeat first|exact trivial|refine⟨⟨rfl,by omega,qO (by omega)⟩,?_⟩|refine⟨⟨rfl,by omega,Os.h _⟩,?_⟩|refine⟨⟨rfl,by omega,qC _ rfl⟩,?_⟩|refine⟨⟨rfl,by omega,pnx hcov rfl⟩,?_⟩|refine⟨⟨congrArg some (by rw[show(putF F 13 ((F 13).set p (W ((F 13).getD p 0+mk.w))) 13).map (fun x=>ii x)=((F 13).map fun x=>ii x).set p (ii (W ((F 13).getD p 0+mk.w)))by rw[←List.map_set];rfl];rfl),by omega,Os.h _⟩,?_⟩) (lbx hLB rfl)
   ·refine⟨by omega,?_⟩
    conv=>whnf
    rw[q9 p rfl rfl rfl rfl (by rw[qE,Nat.mul_one]) hgk]
    conv=>whnf
    refine⟨by omega,?_⟩
    conv=>whnf
    rw[qP (f:=Mrk.vals) (l:=m) u 0 rfl rfl rfl rfl Mrk.vlen (by rw[qE]) hu3 (by decide) rfl,hmk]
    conv=>whnf
    refine⟨by omega,?_⟩
    conv=>whnf
    rw[zJ p rfl rfl rfl rfl rfl (by rw[qE,Nat.mul_one]) (by rw[List.length_map];omega) rfl rfl]
    conv=>whnf
    refine⟨by kernel_rfl,?_⟩
    refine Run.W2 hc ?_
    conv=>whnf
    exact Run.tH (ih trivial) ⟨⟨rfl,ltb rfl⟩,⟨rfl,ltb rfl⟩,⟨wsx (by omega),trivial⟩,trivial⟩ (by repeat first|exact trivial|refine⟨⟨rfl,by omega,qO (by omega)⟩,?_⟩|refine⟨⟨rfl,by omega,Os.h _⟩,?_⟩|refine⟨⟨rfl,by omega,qC _ rfl⟩,?_⟩|refine⟨⟨rfl,by omega,pnx hcov rfl⟩,?_⟩|refine⟨⟨congrArg some (by rw[show(putF F 14 ((F 14).set p (W ((F 14).getD p 0+mk.w))) 14).map (fun x=>ii x)=((F 14).map fun x=>ii x).set p (ii (W ((F 14).getD p 0+mk.w)))by rw[←List.map_set];rfl];rfl),by omega,Os.h _⟩,?_⟩) (lbx hLB rfl)
   ·refine⟨by omega,?_⟩
    conv=>whnf
    rw[q9 p rfl rfl rfl rfl (by rw[qE,Nat.mul_one]) hgk]
    conv=>whnf
    refine⟨by omega,?_⟩
    conv=>whnf
    rw[qP (f:=Mrk.vals) (l:=m) u 0 rfl rfl rfl rfl Mrk.vlen (by rw[qE]) hu3 (by decide) rfl,hmk]
    conv=>whnf
    refine⟨by omega,?_⟩
    conv=>whnf
    rw[zJ p rfl rfl rfl rfl rfl (by rw[qE,Nat.mul_one]) (by rw[List.length_map];omega) rfl rfl]
    conv=>whnf
    refine⟨by kernel_rfl,?_⟩
    refine Run.W2 hc ?_
    conv=>whnf
    exact Run.tH (ih trivial) ⟨⟨rfl,ltb rfl⟩,⟨rfl,ltb rfl⟩,⟨wsx (by omega),trivial⟩,trivial⟩ (by repeat first|exact trivial|refine⟨⟨rfl,by omega,qO (by omega)⟩,?_⟩|refine⟨⟨rfl,by omega,Os.h _⟩,?_⟩|refine⟨⟨rfl,by omega,qC _ rfl⟩,?_⟩|refine⟨⟨rfl,by omega,pnx hcov rfl⟩,?_⟩|refine⟨⟨congrArg some (by rw[show(putF F 15 ((F 15).set p (W ((F 15).getD p 0+mk.w))) 15).map (fun x=>ii x)=((F 15).map fun x=>ii x).set p (ii (W ((F 15).getD p 0+mk.w)))by rw[←List.map_set];rfl];rfl),by omega,Os.h _⟩,?_⟩) (lbx hLB rfl)
  ·intro _
   refine Run.W2 hc ?_
   conv=>whnf
   rw[decide_eq_false (show ¬((pl.length:Nat):Int)<(pl.length:Int)by omega)]
   conv=>whnf
   refine SpecR.pR (rq [(41,58),(58,41)]) (fun i hi=>zC (qZ (B:=41) rfl hi)) ?_ (Widens.refl _ _) hLB (by decide) hcov rfl rfl (show 41<58 by decide) (by repeat first|exact trivial|refine⟨⟨rfl,by omega,qC _ rfl⟩,?_⟩|refine⟨⟨congrArg some (z5 (r:=rq [(41,58),(58,41)]) (b:=42) (b':=42) (fun j hj=>by have inv :∀j,j<16→rq [(41,58),(58,41)] (42+j)=42+j:=(by decide);exact inv j (by omega))).symm,by omega,qO (by omega)⟩,?_⟩|refine⟨⟨congrArg some (ofx (o:=.row _ _ (List.map _ _) _) (qK _ _)).symm,by omega,Os.h _⟩,?_⟩)
   intro i hi j hj hne
   have inj :∀i,i<58 → ∀j,j<58→i≠j→rq [(41,58),(58,41)] i≠rq [(41,58),(58,41)] j:=by decide
   exact inj i hi j hj hne
set_option maxHeartbeats 8000000
def FTw_v:List SV→Option SV
 | [.v (.int .i64 a)]=>some (ii (W (a.tdiv 256)))
 |_=>none
theorem rI:Pure Try.prog 88 (zV FTw_v):=PureV.lift {
 ent:=ent _ _ Try.func88 (by kernel_rfl) rfl
 sc S args v hv _:=by
  unfold FTw_v at hv
  split at hv
  ·obtain rfl:=Option.some.inj hv;trivial
  ·cases hv
 run ρ args v w hv:=by
  unfold FTw_v at hv
  split at hv
  ·rename_i a
   obtain rfl:=Option.some.inj hv
   refine Run.pB (tab:=tab) (pf:=[]) (cuts:=[]) mixed qI trivial Try.func88 rfl [ii a] 100 ⟨trivial,trivial⟩ rfl ?_
   conv=>whnf
   refine⟨by decide,?_⟩
   conv=>whnf
   exact⟨fun ρ w' hW _=>⟨rfl,hW.toExt⟩⟩
  ·cases hv }
def rchC (r:Rul)(m:Mrk)(sp ar:Bool):Int:=
 let c:=if sp then W (0+W ((W (r.up*m.x)).tdiv (pwr r.shift)))else 0
 if ar then W (c-W ((W (r.down*m.y)).tdiv (pwr r.shift)))else c
def rchg (r:Rul)(m:Mrk)(sp ar:Bool)(q:Int):Mrk:=
 if r.kind=1 then⟨max r.lo (min r.hi (W (m.w+rchC r m sp ar))),m.x,m.y,m.e⟩
 else⟨max r.lo (min r.hi (W (m.w+W ((W (q*max (-65535) (min 65535 (W (m.e+rchC r m sp ar))))).tdiv 256)))),m.x,m.y,max (-65535) (min 65535 (W (m.e+rchC r m sp ar)))⟩
theorem change3_run (r:Rul)(m:Mrk)(sp ar:Bool)(q:Int)(hs:0≤r.shift∧r.shift≤16)(w:World):Calls Try.prog 89 #[m.sv.conc zI,r.sv.conc zI,.bool sp,.bool ar,.int .i64 q] w fun e w'=>e = .returned ((rchg r m sp ar q).sv.conc zI)∧Ext w w':=by
 obtain⟨pwo,hpo⟩ :∃pwo,pwr=pwo:=⟨_,rfl⟩
 have hpp:pwo r.shift≠0:=by
  have:=pw2_eq r.shift.toNat (by omega)
  have hp0:(0:Int)<2 ^ r.shift.toNat:=by exact_mod_cast Nat.pow_pos (by decide)
  rw[←hpo,pwr,this];omega
 have hpf:PF.oks Try.prog [(88,zV FTw_v),(50,F62 fun n=>.int .i64 (pwo n))]:=by rw[←hpo];exact⟨rI,power_pure,trivial⟩
 have hc :∀w L' rd,(∀p,rd=some p→p∈L')→Cx.ok ⟨Try.prog,tab,[(88,zV FTw_v),(50,F62 fun n=>.int .i64 (pwo n))],89,Try.f89,[],w,L',rd⟩:=fun w L' rd h=>⟨qI,hpf,Try.func89,mixed,h⟩
 unfold rchg rchC
 rw[hpo]
 refine Run.pB (tab:=tab) (pf:=[(88,zV FTw_v),(50,F62 fun n=>.int .i64 (pwo n))]) (cuts:=[]) mixed qI hpf Try.func89 rfl [m.sv,.agg (r.vals.map .v),.v (.bool sp),.v (.bool ar),ii q] 100 (by simp[SV.scs,SV.sc,Mrk.sv,Mrk.cells,qR]) rfl ?_
 conv=>whnf
 cases sp
 ·conv=>whnf
  cases ar
  ·conv=>whnf
   cases hk:r.kind==1
   case true=>
    rw[if_pos (by simpa using hk)]
    conv=>whnf
    exact⟨fun ρ w' hW _=>⟨rfl,hW.toExt⟩⟩
   rw[if_neg (by simpa using hk)]
   conv=>whnf
   refine Run.draw (hc w [] none nofun) 10 ?_
   rw[show qD 0 10=qD 0 6++(qD 6 1++(qD 7 1++qD 8 2))from rfl]
   simp only[qN]
   conv=>whnf
   refine⟨by kernel_rfl,?_⟩
   refine Run.W1 (hc w [] none nofun) ?_
   conv=>whnf
   exact⟨fun ρ w' hW _=>⟨rfl,hW.toExt⟩⟩
  ·conv=>whnf
   refine Run.draw (hc w [] none nofun) 11 ?_
   rw[show qD 0 11=qD 0 8++(qD 8 1++(qD 9 1++qD 10 1))from rfl]
   simp only[qN]
   conv=>whnf
   rw[t3 (h:=fun n=>.int .i64 (pwo n)) rfl rfl rfl rfl (show r.shift≤62 by omega)]
   conv=>whnf
   refine⟨hpp,?_⟩
   conv=>whnf
   refine⟨by kernel_rfl,?_⟩
   refine Run.W1 (hc w [] none nofun) ?_
   conv=>whnf
   cases hk:r.kind==1
   case true=>
    rw[if_pos (by simpa using hk)]
    conv=>whnf
    exact⟨fun ρ w' hW _=>⟨rfl,hW.toExt⟩⟩
   rw[if_neg (by simpa using hk)]
   conv=>whnf
   refine Run.draw (hc w [] none nofun) 10 ?_
   rw[show qD 0 10=qD 0 6++(qD 6 1++(qD 7 1++qD 8 2))from rfl]
   simp only[qN]
   conv=>whnf
   refine⟨by kernel_rfl,?_⟩
   refine Run.W1 (hc w [] none nofun) ?_
   conv=>whnf
   exact⟨fun ρ w' hW _=>⟨rfl,hW.toExt⟩⟩
 ·conv=>whnf
  refine Run.draw (hc w [] none nofun) 11 ?_
  rw[show qD 0 11=qD 0 8++(qD 8 1++(qD 9 1++qD 10 1))from rfl]
  simp only[qN]
  conv=>whnf
  rw[t3 (h:=fun n=>.int .i64 (pwo n)) rfl rfl rfl rfl (show r.shift≤62 by omega)]
  conv=>whnf
  refine⟨hpp,?_⟩
  conv=>whnf
  refine⟨by kernel_rfl,?_⟩
  refine Run.W1 (hc w [] none nofun) ?_
  conv=>whnf
  cases ar
  ·conv=>whnf
   cases hk:r.kind==1
   case true=>
    rw[if_pos (by simpa using hk)]
    conv=>whnf
    exact⟨fun ρ w' hW _=>⟨rfl,hW.toExt⟩⟩
   rw[if_neg (by simpa using hk)]
   conv=>whnf
   refine Run.draw (hc w [] none nofun) 10 ?_
   rw[show qD 0 10=qD 0 6++(qD 6 1++(qD 7 1++qD 8 2))from rfl]
   simp only[qN]
   conv=>whnf
   refine⟨by kernel_rfl,?_⟩
   refine Run.W1 (hc w [] none nofun) ?_
   conv=>whnf
   exact⟨fun ρ w' hW _=>⟨rfl,hW.toExt⟩⟩
  ·conv=>whnf
   refine Run.draw (hc w [] none nofun) 11 ?_
   rw[show qD 0 11=qD 0 8++(qD 8 1++(qD 9 1++qD 10 1))from rfl]
   simp only[qN]
   conv=>whnf
   rw[t3 (h:=fun n=>.int .i64 (pwo n)) rfl rfl rfl rfl (show r.shift≤62 by omega)]
   conv=>whnf
   refine⟨hpp,?_⟩
   conv=>whnf
   refine⟨by kernel_rfl,?_⟩
   refine Run.W1 (hc w [] none nofun) ?_
   conv=>whnf
   cases hk:r.kind==1
   case true=>
    rw[if_pos (by simpa using hk)]
    conv=>whnf
    exact⟨fun ρ w' hW _=>⟨rfl,hW.toExt⟩⟩
   rw[if_neg (by simpa using hk)]
   conv=>whnf
   refine Run.draw (hc w [] none nofun) 10 ?_
   rw[show qD 0 10=qD 0 6++(qD 6 1++(qD 7 1++qD 8 2))from rfl]
   simp only[qN]
   conv=>whnf
   refine⟨by kernel_rfl,?_⟩
   refine Run.W1 (hc w [] none nofun) ?_
   conv=>whnf
   exact⟨fun ρ w' hW _=>⟨rfl,hW.toExt⟩⟩
set_option maxHeartbeats 16000000
def yL (S:List Syn)(pl:List Int)(r p lo hi tot:Int)(x:Int×List Mrk)(i:Nat):Int×List Mrk:=
 if pl.getD i (-1)=r∧(S.getD i qX).to=p then
  if x.1<tot then(if (x.2.getD i qM).w<hi then(W (x.1+1),x.2.set i { x.2.getD i qM with w:=W ((x.2.getD i qM).w+1) })else x)
  else(if lo<(x.2.getD i qM).w then(W (x.1-1),x.2.set i { x.2.getD i qM with w:=W ((x.2.getD i qM).w-1) })else x)
 else x
def rrY (S:List Syn)(pl:List Int)(r p lo hi tot:Int)(x:Int×List Mrk):Nat→Int×List Mrk
 | 0=>x
 |k+1=>yL S pl r p lo hi tot (rrY S pl r p lo hi tot x k) (k % S.length)
theorem rrIt_len (S:List Syn)(pl:List Int)(r p lo hi tot:Int)(x:Int×List Mrk)(i:Nat):(yL S pl r p lo hi tot x i).2.length=x.2.length:=by
 unfold yL
 split
 ·split
  ·split<;>simp
  ·split<;>simp
 ·rfl
theorem rrY_len (S:List Syn)(pl:List Int)(r p lo hi tot:Int)(x:Int×List Mrk) :∀k,(rrY S pl r p lo hi tot x k).2.length=x.2.length
 | 0=>rfl
 |k+1=>by rw[rrY,rrIt_len];exact rrY_len S pl r p lo hi tot x k
theorem rr_next' {k L:Nat}(h0:0<L)(h:L≤100000):(IntKind.i64.wrap (((k % L:Nat):Int)+1)).tmod (L:Int)=(((k+1) % L:Nat):Int):=by
 have h1:=Nat.mod_lt k h0
 have h2:IntKind.i64.wrap (((k % L:Nat):Int)+1)=((k % L+1:Nat):Int):=zH (by omega)
 rw[h2]
 have h3:((k % L+1:Nat):Int).tmod (L:Int)=((((k % L+1) % L):Nat):Int):=by
  rw[Int.tmod_eq_emod_of_nonneg (by omega)];exact(Int.natCast_emod _ _).symm
 rw[h3,show(k % L+1) % L=(k+1) % L by simp[Nat.add_mod]]
theorem rrestore_spec (tk inp:Int)(N:Nat)(S:List Syn)(rs:List Rul)(pl:List Int)(m:List Mrk)(tt:Nat→List Int)(r p:Nat)(sum:Int)(K:Nat)(hS:S.length≤8192)(hR:rs.length≤16)(hp:pl.length=S.length)(hm:m.length=S.length)(hr:r<rs.length)(hpN:p<N)(htt :∀k,(tt k).length=cN rs.length N k)
  (hK :∀k,k<K→(rrY S pl r p (rs.getD r q8).lo (rs.getD r q8).hi ((tt r).getD p 0) (sum,m) k).1≠(tt r).getD p 0) (hE:(rrY S pl r p (rs.getD r q8).lo (rs.getD r q8).hi ((tt r).getD p 0) (sum,m) K).1=(tt r).getD p 0) (hL:0<K→0<S.length) :
  BSpec Try.prog 90 [.ptr 0 0,ii (r:Int),ii (p:Int),ii sum] [(0,.cells (zS (ii tk) inp) 108),(2,.rwin 4 S.length (S.flatMap Syn.vals)),(4,.rwin 10 rs.length (rs.flatMap Rul.vals)),(5,.rwin 1 pl.length (qB pl)),(6,.row 4 S.length (m.flatMap Mrk.cells) 141),(7,.row 1 rs.length (zT 25 rs.length) 27),(25,.rwin 1 (cN rs.length N 0) (qB (tt 0))),(26,.rwin 1 (cN rs.length N 1) (qB (tt 1))),(27,.rwin 1 (cN rs.length N 2) (qB (tt 2))),(28,.rwin 1 (cN rs.length N 3) (qB (tt 3))),(29,.rwin 1 (cN rs.length N 4) (qB (tt 4))),(30,.rwin 1 (cN rs.length N 5) (qB (tt 5))),(31,.rwin 1 (cN rs.length N 6) (qB (tt 6))),(32,.rwin 1 (cN rs.length N 7) (qB (tt 7))),(33,.rwin 1 (cN rs.length N 8) (qB (tt 8))),(34,.rwin 1 (cN rs.length N 9) (qB (tt 9))),(35,.rwin 1 (cN rs.length N 10) (qB (tt 10))),(36,.rwin 1 (cN rs.length N 11) (qB (tt 11))),(37,.rwin 1 (cN rs.length N 12) (qB (tt 12))),(38,.rwin 1 (cN rs.length N 13) (qB (tt 13))),(39,.rwin 1 (cN rs.length N 14) (qB (tt 14))),(40,.rwin 1 (cN rs.length N 15) (qB (tt 15)))] 41 [0,6,7] (.tup []) [(0,.cells (zS (ii tk) inp) 108),(6,.row 4 S.length ((rrY S pl r p (rs.getD r q8).lo (rs.getD r q8).hi ((tt r).getD p 0) (sum,m) K).2.flatMap Mrk.cells) 141),(7,.row 1 rs.length (zT 25 rs.length) 27)] 41:=by
 have hc :∀w L' rd,(∀p,rd=some p→p∈L')→Cx.ok ⟨Try.prog,tab,[],90,Try.f90,[],w,L',rd⟩:=fun w L' rd h=>⟨qI,trivial,Try.func90,mixed,h⟩
 have hrl:rs.getD r q8=rs[r]:=by simp[List.getD_eq_getElem?_getD,hr]
 obtain⟨ru,hru⟩ :∃ru,rs[r]=ru:=⟨_,rfl⟩
 rw[hrl,hru]at hK hE ⊢
 have htp:(qB (tt r))[p]? = some (.int .i64 ((tt r).getD p 0)):=by
  have:p<(tt r).length:=by rw[htt];unfold cN;rw[if_pos hr];exact hpN
  rw[zA this,List.getD_eq_getElem?_getD,List.getElem?_eq_getElem this];rfl
 have hcn:cN rs.length N r=N:=by unfold cN;rw[if_pos hr]
 have htk:(zT 25 rs.length)[r]? = some (.opq (25+r)):=tabX_get hr
 have hr16:r<16:=by omega
 obtain⟨tot,htot⟩ :∃tot,(tt r).getD p 0=tot:=⟨_,rfl⟩
 rw[htot]at hK hE htp ⊢
 refine BSpec.start (tab:=tab) (pf:=[]) (cuts:=[]) Try.func90 rfl ⟨(show 0<41 by decide),trivial,trivial,trivial,trivial⟩ rfl fun w L0 plp hL' hLB hcov=>Run.r8 (hc w L0 none nofun) 100 _ ?_
 conv=>whnf
 refine⟨by omega,?_⟩
 conv=>whnf
 rw[q9 r rfl rfl rfl rfl (by rw[qE,Nat.mul_one]) htk]
 conv=>whnf
 apply joinL (R:=SpecR w L0 plp (.tup []) [(0,.cells (zS (ii tk) inp) 108),(6,.row 4 S.length ((rrY S pl r p ru.lo ru.hi tot (sum,m) K).2.flatMap Mrk.cells) 141),(7,.row 1 rs.length (zT 25 rs.length) 27)] 41) [(0,.ptr 0 0),(1,ii (r:Int)),(2,ii (p:Int)),(3,ii sum),(8,ii tot),(9,ii ((0 % S.length:Nat):Int))] [(6,.row 4 S.length (m.flatMap Mrk.cells) 141),(0,.cells (zS (ii tk) inp) 108),(2,.rwin 4 S.length (S.flatMap Syn.vals)),(4,.rwin 10 rs.length (rs.flatMap Rul.vals)),(5,.rwin 1 pl.length (qB pl)),(7,.row 1 rs.length (zT 25 rs.length) 27),(41,.pin plp)] 42
 ·intro tail
  rcases lt16 hr16 with rfl|rfl|rfl|rfl|rfl|rfl|rfl|rfl|rfl|rfl|rfl|rfl|rfl|rfl|rfl|rfl
  all_goals
   conv=>whnf
   refine⟨by omega,?_⟩
   conv=>whnf
   rw[qY p rfl rfl rfl rfl (by rw[qE,Nat.mul_one]) htp]
   conv=>whnf
   exact Run.tH tail ⟨⟨rfl,ltb rfl⟩,⟨rfl,trivial⟩,⟨rfl,trivial⟩,⟨rfl,trivial⟩,⟨rfl,trivial⟩,⟨congrArg some (congrArg ii (by rw[Nat.zero_mod];rfl)),trivial⟩,trivial⟩ ⟨⟨rfl,by omega,Os.h _⟩,⟨rfl,by omega,qC _ rfl⟩,⟨rfl,by omega,Os.h _⟩,⟨rfl,by omega,Os.h _⟩,⟨rfl,by omega,Os.h _⟩,⟨rfl,by omega,qO (by omega)⟩,⟨rfl,by omega,pnx hcov rfl⟩,trivial⟩ (lbx hLB rfl)
 refine Run.pE (T:=fun k=>[(0,.ptr 0 0),(1,ii (r:Int)),(2,ii (p:Int)),(3,ii (rrY S pl r p ru.lo ru.hi tot (sum,m) k).1),(8,ii tot),(9,ii ((k % S.length:Nat):Int))]) (M:=fun k=>[(6,.row 4 S.length ((rrY S pl r p ru.lo ru.hi tot (sum,m) k).2.flatMap Mrk.cells) 141),(0,.cells (zS (ii tk) inp) 108),(2,.rwin 4 S.length (S.flatMap Syn.vals)),(4,.rwin 10 rs.length (rs.flatMap Rul.vals)),(5,.rwin 1 pl.length (qB pl)),(7,.row 1 rs.length (zT 25 rs.length) 27),(41,.pin plp)]) (fun _=>True) K trivial ?_ ?_
 ·intro k hk _ ih
  have hneK:=hK k hk
  have hL0:=hL (by omega)
  have hil0:=Nat.mod_lt k hL0
  have hll:(rrY S pl r p ru.lo ru.hi tot (sum,m) k).2.length=m.length:=rrY_len S pl r p ru.lo ru.hi tot (sum,m) k
  have hnx:=rr_next' (k:=k) hL0 (by omega)
  have hst:rrY S pl r p ru.lo ru.hi tot (sum,m) (k+1)=yL S pl r p ru.lo ru.hi tot (rrY S pl r p ru.lo ru.hi tot (sum,m) k) (k % S.length):=rfl
  rw[hst]at ih
  obtain⟨x,hx⟩ :∃x,rrY S pl r p ru.lo ru.hi tot (sum,m) k=x:=⟨_,rfl⟩
  rw[hx]at hneK hll ih ⊢
  obtain⟨s,hs⟩ :∃s,x.1=s:=⟨_,rfl⟩
  obtain⟨l,hl⟩ :∃l,x.2=l:=⟨_,rfl⟩
  have hxe:x=(s,l):=by rw[←hs,←hl]
  rw[hs,hl]
  rw[hs]at hneK
  rw[hl]at hll
  rw[hxe]at ih
  obtain⟨i,hi⟩ :∃i,k % S.length=i:=⟨_,rfl⟩
  rw[hi]at hil0 hnx ih ⊢
  have hil:i<l.length:=by omega
  have hip:i<pl.length:=by omega
  have hpd:pl.getD i (-1)=pl[i]:=by simp[List.getD_eq_getElem?_getD,hip]
  have hsd:S.getD i qX=S[i]:=by simp[List.getD_eq_getElem?_getD,hil0]
  have hld:l.getD i qM=l[i]:=by simp[List.getD_eq_getElem?_getD,hil]
  refine Run.W2 hc ?_
  conv=>whnf
  rw[show(s != tot)=true by simpa using hneK]
  conv=>whnf
  refine⟨by omega,?_⟩
  conv=>whnf
  rw[qY i rfl rfl rfl rfl (by rw[qE,Nat.mul_one]) (zA hip)]
  conv=>whnf
  cases c0:(pl[i] != (r:Int))
  case true=>
   conv=>whnf
   refine⟨by omega,?_⟩
   conv=>whnf
   have hres:yL S pl r p ru.lo ru.hi tot (s,l) i=(s,l):=by
    unfold yL
    rw[hpd,hsd,if_neg (fun h=>by simp[h.1]at c0)]
   rw[hres]at ih
   exact Run.tH (ih trivial) ⟨⟨rfl,ltb rfl⟩,⟨rfl,trivial⟩,⟨rfl,trivial⟩,⟨rfl,trivial⟩,⟨rfl,trivial⟩,⟨congrArg some (congrArg ii hnx),trivial⟩,trivial⟩ ⟨⟨rfl,by omega,Os.h _⟩,⟨rfl,by omega,qC _ rfl⟩,⟨rfl,by omega,Os.h _⟩,⟨rfl,by omega,Os.h _⟩,⟨rfl,by omega,Os.h _⟩,⟨rfl,by omega,qO (by omega)⟩,⟨rfl,by omega,pnx hcov rfl⟩,trivial⟩ (lbx hLB rfl)
  conv=>whnf
  refine⟨by omega,?_⟩
  conv=>whnf
  rw[qP (f:=Syn.vals) (l:=S) i 1 rfl rfl rfl rfl Syn.vlen (by rw[qE]) hil0 (by decide) rfl]
  conv=>whnf
  cases c1:(S[i].to != (p:Int))
  case true=>
   conv=>whnf
   refine⟨by omega,?_⟩
   conv=>whnf
   have hres:yL S pl r p ru.lo ru.hi tot (s,l) i=(s,l):=by
    unfold yL
    rw[hpd,hsd,if_neg (fun h=>by simp[h.2]at c1)]
   rw[hres]at ih
   exact Run.tH (ih trivial) ⟨⟨rfl,ltb rfl⟩,⟨rfl,trivial⟩,⟨rfl,trivial⟩,⟨rfl,trivial⟩,⟨rfl,trivial⟩,⟨congrArg some (congrArg ii hnx),trivial⟩,trivial⟩ ⟨⟨rfl,by omega,Os.h _⟩,⟨rfl,by omega,qC _ rfl⟩,⟨rfl,by omega,Os.h _⟩,⟨rfl,by omega,Os.h _⟩,⟨rfl,by omega,Os.h _⟩,⟨rfl,by omega,qO (by omega)⟩,⟨rfl,by omega,pnx hcov rfl⟩,trivial⟩ (lbx hLB rfl)
  conv=>whnf
  have hpr:pl[i]=(r:Int)∧S[i].to=(p:Int):=⟨by simpa using c0,by simpa using c1⟩
  cases c2:decide (s<tot)
  case true=>
   have c4:decide (tot<s)=false:=decide_eq_false (by have:=of_decide_eq_true c2;omega)
   refine Run.draw (hc w L0 none nofun) 22 ?_
   rw[show qD 0 22=qD 0 3++(qD 3 7++(qD 10 2++(qD 12 6++(qD 18 2++qD 20 2))))from rfl]
   simp only[qN]
   conv=>whnf
   rw[c2]
   conv=>whnf
   refine⟨by omega,?_⟩
   conv=>whnf
   rw[j8 (f:=Mrk.cells) (l:=l) i 0 rfl rfl rfl rfl Mrk.clen (by rw[qE]) hil (by decide) rfl]
   conv=>whnf
   refine⟨by omega,?_⟩
   conv=>whnf
   rw[qP (f:=Rul.vals) (l:=rs) r 8 rfl rfl rfl rfl Rul.vlen (by rw[qE]) hr (by decide) rfl,hru]
   conv=>whnf
   refine⟨by kernel_rfl,?_⟩
   refine Run.W2 hc ?_
   conv=>whnf
   cases c3:decide (l[i].w<ru.hi)
   case true=>
    conv=>whnf
    refine⟨by omega,?_⟩
    conv=>whnf
    rw[j8 (f:=Mrk.cells) (l:=l) i 0 rfl rfl rfl rfl Mrk.clen (by rw[qE]) hil (by decide) rfl]
    conv=>whnf
    refine⟨by omega,?_⟩
    conv=>whnf
    rw[yY (f:=Mrk.cells) (l:=l) i 0 ({ l[i]with w:=W (l[i].w+1) }) rfl rfl rfl rfl rfl Mrk.clen (by rw[qE]) hil (by decide) rfl rfl rfl]
    conv=>whnf
    refine⟨by omega,?_⟩
    conv=>whnf
    have hres:yL S pl r p ru.lo ru.hi tot (s,l) i=(W (s+1),l.set i { l[i]with w:=W (l[i].w+1) }):=by
     unfold yL
     simp only[hpd,hsd,hld]
     rw[if_pos hpr,if_pos (of_decide_eq_true c2),if_pos (of_decide_eq_true c3)]
    rw[hres]at ih
    exact Run.tH (ih trivial) ⟨⟨rfl,ltb rfl⟩,⟨rfl,trivial⟩,⟨rfl,trivial⟩,⟨rfl,trivial⟩,⟨rfl,trivial⟩,⟨congrArg some (congrArg ii hnx),trivial⟩,trivial⟩ ⟨⟨rfl,by omega,Os.h _⟩,⟨rfl,by omega,qC _ rfl⟩,⟨rfl,by omega,Os.h _⟩,⟨rfl,by omega,Os.h _⟩,⟨rfl,by omega,Os.h _⟩,⟨rfl,by omega,qO (by omega)⟩,⟨rfl,by omega,pnx hcov rfl⟩,trivial⟩ (lbx hLB rfl)
   conv=>whnf
   refine Run.draw (hc w L0 none nofun) 22 ?_
   rw[show qD 0 22=qD 0 3++qD 3 19 from rfl]
   simp only[qN]
   conv=>whnf
   rw[c4]
   conv=>whnf
   refine⟨by kernel_rfl,?_⟩
   refine Run.W2 hc ?_
   conv=>whnf
   refine⟨by omega,?_⟩
   conv=>whnf
   have hres:yL S pl r p ru.lo ru.hi tot (s,l) i=(s,l):=by
    unfold yL
    simp only[hpd,hsd,hld]
    rw[if_pos hpr,if_pos (of_decide_eq_true c2),if_neg (of_decide_eq_false c3)]
   rw[hres]at ih
   exact Run.tH (ih trivial) ⟨⟨rfl,ltb rfl⟩,⟨rfl,trivial⟩,⟨rfl,trivial⟩,⟨rfl,trivial⟩,⟨rfl,trivial⟩,⟨congrArg some (congrArg ii hnx),trivial⟩,trivial⟩ ⟨⟨rfl,by omega,Os.h _⟩,⟨rfl,by omega,qC _ rfl⟩,⟨rfl,by omega,Os.h _⟩,⟨rfl,by omega,Os.h _⟩,⟨rfl,by omega,Os.h _⟩,⟨rfl,by omega,qO (by omega)⟩,⟨rfl,by omega,pnx hcov rfl⟩,trivial⟩ (lbx hLB rfl)
  have c4:decide (tot<s)=true:=decide_eq_true (by have:=of_decide_eq_false c2;omega)
  refine Run.draw (hc w L0 none nofun) 22 ?_
  rw[show qD 0 22=qD 0 3++qD 3 19 from rfl]
  simp only[qN]
  conv=>whnf
  rw[c2]
  conv=>whnf
  refine⟨by kernel_rfl,?_⟩
  refine Run.W2 hc ?_
  conv=>whnf
  refine Run.draw (hc w L0 none nofun) 22 ?_
  rw[show qD 0 22=qD 0 3++(qD 3 7++(qD 10 2++(qD 12 6++(qD 18 2++qD 20 2))))from rfl]
  simp only[qN]
  conv=>whnf
  rw[c4]
  conv=>whnf
  refine⟨by omega,?_⟩
  conv=>whnf
  rw[j8 (f:=Mrk.cells) (l:=l) i 0 rfl rfl rfl rfl Mrk.clen (by rw[qE]) hil (by decide) rfl]
  conv=>whnf
  refine⟨by omega,?_⟩
  conv=>whnf
  rw[qP (f:=Rul.vals) (l:=rs) r 7 rfl rfl rfl rfl Rul.vlen (by rw[qE]) hr (by decide) rfl,hru]
  conv=>whnf
  refine⟨by kernel_rfl,?_⟩
  refine Run.W2 hc ?_
  conv=>whnf
  cases c5:decide (ru.lo<l[i].w)
  case true=>
   conv=>whnf
   refine⟨by omega,?_⟩
   conv=>whnf
   rw[j8 (f:=Mrk.cells) (l:=l) i 0 rfl rfl rfl rfl Mrk.clen (by rw[qE]) hil (by decide) rfl]
   conv=>whnf
   refine⟨by omega,?_⟩
   conv=>whnf
   rw[yY (f:=Mrk.cells) (l:=l) i 0 ({ l[i]with w:=W (l[i].w-1) }) rfl rfl rfl rfl rfl Mrk.clen (by rw[qE]) hil (by decide) rfl rfl rfl]
   conv=>whnf
   refine⟨by omega,?_⟩
   conv=>whnf
   have hres:yL S pl r p ru.lo ru.hi tot (s,l) i=(W (s-1),l.set i { l[i]with w:=W (l[i].w-1) }):=by
    unfold yL
    simp only[hpd,hsd,hld]
    rw[if_pos hpr,if_neg (of_decide_eq_false c2),if_pos (of_decide_eq_true c5)]
   rw[hres]at ih
   exact Run.tH (ih trivial) ⟨⟨rfl,ltb rfl⟩,⟨rfl,trivial⟩,⟨rfl,trivial⟩,⟨rfl,trivial⟩,⟨rfl,trivial⟩,⟨congrArg some (congrArg ii hnx),trivial⟩,trivial⟩ ⟨⟨rfl,by omega,Os.h _⟩,⟨rfl,by omega,qC _ rfl⟩,⟨rfl,by omega,Os.h _⟩,⟨rfl,by omega,Os.h _⟩,⟨rfl,by omega,Os.h _⟩,⟨rfl,by omega,qO (by omega)⟩,⟨rfl,by omega,pnx hcov rfl⟩,trivial⟩ (lbx hLB rfl)
  conv=>whnf
  refine⟨by omega,?_⟩
  conv=>whnf
  have hres:yL S pl r p ru.lo ru.hi tot (s,l) i=(s,l):=by
   unfold yL
   simp only[hpd,hsd,hld]
   rw[if_pos hpr,if_neg (of_decide_eq_false c2),if_neg (of_decide_eq_false c5)]
  rw[hres]at ih
  exact Run.tH (ih trivial) ⟨⟨rfl,ltb rfl⟩,⟨rfl,trivial⟩,⟨rfl,trivial⟩,⟨rfl,trivial⟩,⟨rfl,trivial⟩,⟨congrArg some (congrArg ii hnx),trivial⟩,trivial⟩ ⟨⟨rfl,by omega,Os.h _⟩,⟨rfl,by omega,qC _ rfl⟩,⟨rfl,by omega,Os.h _⟩,⟨rfl,by omega,Os.h _⟩,⟨rfl,by omega,Os.h _⟩,⟨rfl,by omega,qO (by omega)⟩,⟨rfl,by omega,pnx hcov rfl⟩,trivial⟩ (lbx hLB rfl)
 ·intro _
  refine Run.W2 hc ?_
  conv=>whnf
  rw[show((rrY S pl r p ru.lo ru.hi tot (sum,m) K).1 != tot)=false by simpa using hE]
  conv=>whnf
  exact SpecR.intro 41 (by decide) hLB (by decide) hcov rfl rfl trivial ⟨⟨rfl,by omega,qC _ rfl⟩,⟨congrArg some (ofx (o:=.row _ _ (List.flatMap Mrk.cells _) _) (qF _ _)).symm,by omega,Os.h _⟩,⟨congrArg some (z5 (b:=25) (b':=25) fun j hj=>kI _ (show 25+j<41 by omega)).symm,by omega,qO (by omega)⟩,trivial⟩
set_option maxHeartbeats 2000000
def FCh_v:List SV→Option SV
 | [.agg xs,.agg ys,.v (.bool sp),.v (.bool ar),.v (.int .i64 q)]=>match mrkOf xs with
  |some m=>match rulOf ys with
   |some r=>match decide (0≤r.shift∧r.shift≤16)with
    |true=>some (rchg r m sp ar q).sv
    |false=>none
   |none=>none
  |none=>none
 |_=>none
theorem change3_pure:Pure Try.prog 89 (zV FCh_v):=PureV.lift {
 ent:=ent _ _ Try.func89 (by kernel_rfl) rfl
 sc S args v hv _:=by
  unfold FCh_v at hv
  split at hv
  ·split at hv
   ·split at hv
    ·split at hv
     ·obtain rfl:=Option.some.inj hv
      exact⟨trivial,trivial,trivial,trivial,trivial⟩
     ·cases hv
    ·cases hv
   ·cases hv
  ·cases hv
 run ρ args v w hv:=by
  unfold FCh_v at hv
  split at hv
  ·rename_i xs ys sp ar q
   split at hv
   ·rename_i m hm
    split at hv
    ·rename_i r hr
     split at hv
     ·rename_i hd
      obtain rfl:=Option.some.inj hv
      have:=change3_run r m sp ar q (of_decide_eq_true hd) w
      rw[mrkOf_eq hm,rulOf_eq hr]
      exact this
     ·cases hv
    ·cases hv
   ·cases hv
  ·cases hv }
theorem FCh_at {r:Rul}{m:Mrk}(sp ar:Bool)(q:Int)(M:Mem)(h:0≤r.shift∧r.shift≤16):zV FCh_v M [.agg m.cells,.agg (r.vals.map .v),.v (.bool sp),.v (.bool ar),ii q]=some ([],(rchg r m sp ar q).sv):=by
 have h1:mrkOf m.cells=some m:=rfl
 have h2:rulOf (r.vals.map .v)=some r:=rfl
 have:FCh_v [.agg m.cells,.agg (r.vals.map .v),.v (.bool sp),.v (.bool ar),ii q]=some (rchg r m sp ar q).sv:=by
  simp only[FCh_v,h1,h2,decide_eq_true h]
 simp only[zV,this]
theorem FGo_at (p:Prm)(s:Ste)(x:Int)(M:Mem):FPSI goSV M [.agg (p.vals.map .v),.agg s.cells,ii x]=some ([],.tup [.agg [ii (yA p s x).v,ii (yA p s x).rest],.v (.bool (yM p s x))]):=rfl
theorem FTw_at (a:Int)(M:Mem):zV FTw_v M [ii a]=some ([],ii (W (a.tdiv 256))):=rfl
set_option maxHeartbeats 16000000
def raB (sn:Nat→List Int)(y:Syn):Bool:=decide (y.fr∈sn (y.d-1).toNat)
def raStep (sn:Nat→List Int)(S:List Syn)(m:List Mrk)(x:List Bool×List Int)(i:Nat):List Bool×List Int:=
 (x.1.set i (raB sn (S.getD i qX)),if raB sn (S.getD i qX)=true then x.2.set (S.getD i qX).to.toNat (W (x.2.getD (S.getD i qX).to.toNat 0+(m.getD i qM).w))else x.2)
def raY (sn:Nat→List Int)(S:List Syn)(m:List Mrk)(N j:Nat):List Bool×List Int:=(List.range j).foldl (raStep sn S m) (List.replicate S.length false,List.replicate N 0)
def raL (sn:Nat→List Int)(S:List Syn)(m:List Mrk)(N:Nat):List Bool×List Int:=raY sn S m N S.length
theorem t9 (sn:Nat→List Int)(S:List Syn)(m:List Mrk)(N j:Nat):raY sn S m N (j+1)=raStep sn S m (raY sn S m N j) j:=kN ..
theorem raY_len (sn:Nat→List Int)(S:List Syn)(m:List Mrk)(N:Nat) :∀j,(raY sn S m N j).1.length=S.length∧(raY sn S m N j).2.length=N
 | 0=>by simp[raY]
 |j+1=>by
  rw[t9]
  have:=raY_len sn S m N j
  unfold raStep
  refine⟨by rw[List.length_set];exact this.1,?_⟩
  split
  ·rw[List.length_set];exact this.2
  ·exact this.2
theorem raY_ge (sn:Nat→List Int)(S:List Syn)(m:List Mrk)(N k:Nat) :∀j,j≤k→(raY sn S m N j).1[k]? = (List.replicate S.length false)[k]?
 | 0,_=>by simp[raY]
 |j+1,h=>by
  rw[t9]
  unfold raStep
  rw[List.getElem?_set_ne (by omega)]
  exact raY_ge sn S m N k j (by omega)
theorem set_map_b (l:List Bool)(i:Nat)(a b:Bool):((l.set i a).map fun b=>SV.v (.bool b)).set i (.v (.bool b))=(l.set i b).map fun b=>SV.v (.bool b):=by
 rw[List.map_set,List.map_set,List.set_set]
def rnStep (gs:Prm→Ste→Int→Ste)(gb:Prm→Ste→Int→Bool)(N:List Prm)(sums:List Int)(x:List Ste×List Bool×List Int)(i:Nat):List Ste×List Bool×List Int:=
 (x.1.set i (gs (N.getD i prm0) (x.1.getD i jS) (sums.getD i 0)),x.2.1.set i (gb (N.getD i prm0) (x.1.getD i jS) (sums.getD i 0)),if gb (N.getD i prm0) (x.1.getD i jS) (sums.getD i 0)=true then x.2.2++[(i:Int)]else x.2.2)
def rnY (gs:Prm→Ste→Int→Ste)(gb:Prm→Ste→Int→Bool)(N:List Prm)(sums:List Int)(st:List Ste)(j:Nat):List Ste×List Bool×List Int:=(List.range j).foldl (rnStep gs gb N sums) (st,List.replicate N.length false,[])
def rnL (N:List Prm)(sums:List Int)(st:List Ste):List Ste×List Bool×List Int:=rnY yA yM N sums st N.length
theorem rnY_succ (gs:Prm→Ste→Int→Ste)(gb:Prm→Ste→Int→Bool)(N:List Prm)(sums:List Int)(st:List Ste)(j:Nat):rnY gs gb N sums st (j+1)=rnStep gs gb N sums (rnY gs gb N sums st j) j:=kN ..
theorem rnY_len (gs:Prm→Ste→Int→Ste)(gb:Prm→Ste→Int→Bool)(N:List Prm)(sums:List Int)(st:List Ste) :∀j,(rnY gs gb N sums st j).1.length=st.length∧(rnY gs gb N sums st j).2.1.length=N.length∧(rnY gs gb N sums st j).2.2.length≤j
 | 0=>by simp[rnY]
 |j+1=>by
  rw[rnY_succ]
  have:=rnY_len gs gb N sums st j
  unfold rnStep
  refine⟨by rw[List.length_set];exact this.1,by rw[List.length_set];exact this.2.1,?_⟩
  split
  ·simp;omega
  ·show(rnY gs gb N sums st j).2.2.length≤j+1;omega
def rrM (S:List Syn)(rs:List Rul)(pl:List Int)(tt F:Nat→List Int)(r p K:Nat)(m:List Mrk):List Mrk:=
 (rrY S pl r p (rs.getD r q8).lo (rs.getD r q8).hi ((tt r).getD p 0) ((F r).getD p 0,m) K).2
def rgP (S:List Syn)(rs:List Rul)(pl:List Int)(tt F:Nat→List Int)(Kf:Nat→Nat→Nat)(r:Nat)(m:List Mrk):Nat→List Mrk
 | 0=>m
 |p+1=>rrM S rs pl tt F r p (Kf r p) (rgP S rs pl tt F Kf r m p)
def rgY (S:List Syn)(rs:List Rul)(pl:List Int)(tt F:Nat→List Int)(N:Nat)(Kf:Nat→Nat→Nat)(m:List Mrk):Nat→List Mrk
 | 0=>m
 |r+1=>if (rs.getD r q8).sum=true then rgP S rs pl tt F Kf r (rgY S rs pl tt F N Kf m r) N else rgY S rs pl tt F N Kf m r
def RgOK (S:List Syn)(rs:List Rul)(pl:List Int)(tt F:Nat→List Int)(N:Nat)(Kf:Nat→Nat→Nat)(m:List Mrk):Prop:=
 ∀r,r<rs.length→(rs.getD r q8).sum=true → ∀p,p<N →
  (∀k,k<Kf r p→(rrY S pl r p (rs.getD r q8).lo (rs.getD r q8).hi ((tt r).getD p 0) ((F r).getD p 0,rgP S rs pl tt F Kf r (rgY S rs pl tt F N Kf m r) p) k).1≠(tt r).getD p 0) ∧
  (rrY S pl r p (rs.getD r q8).lo (rs.getD r q8).hi ((tt r).getD p 0) ((F r).getD p 0,rgP S rs pl tt F Kf r (rgY S rs pl tt F N Kf m r) p) (Kf r p)).1=(tt r).getD p 0∧(0<Kf r p→0<S.length)
theorem rrM_len (S:List Syn)(rs:List Rul)(pl:List Int)(tt F:Nat→List Int)(r p K:Nat)(m:List Mrk):(rrM S rs pl tt F r p K m).length=m.length:=rrY_len ..
theorem rgP_len (S:List Syn)(rs:List Rul)(pl:List Int)(tt F:Nat→List Int)(Kf:Nat→Nat→Nat)(r:Nat)(m:List Mrk) :∀p,(rgP S rs pl tt F Kf r m p).length=m.length
 | 0=>rfl
 |p+1=>by rw[rgP,rrM_len];exact rgP_len S rs pl tt F Kf r m p
theorem rgY_len (S:List Syn)(rs:List Rul)(pl:List Int)(tt F:Nat→List Int)(N:Nat)(Kf:Nat→Nat→Nat)(m:List Mrk) :∀r,(rgY S rs pl tt F N Kf m r).length=m.length
 | 0=>rfl
 |r+1=>by
  rw[rgY]
  split
  ·rw[rgP_len];exact rgY_len S rs pl tt F N Kf m r
  ·exact rgY_len S rs pl tt F N Kf m r
def xY (tk:SV)(inp:Int)(q:Nat):List SV:=[.opq 1,ii inp,.opq 2,.opq 4,.opq 5,.opq 6,.opq 7,tk,.opq 3,.opq q]
def sL (inputs zo:List Int)(j:Nat):List Int:=zo++(inputs.take j).map fun k=>W (-1-k)
theorem sL_succ {inputs zo:List Int}{j:Nat}(h:j<inputs.length):sL inputs zo (j+1)=sL inputs zo j++[W (-1-inputs[j])]:=by
 unfold sL
 rw[←List.take_append_getElem h,List.map_append,List.append_assoc];rfl
theorem sL_len (inputs zo:List Int)(j:Nat):(sL inputs zo j).length≤zo.length+inputs.length:=by
 unfold sL
 simp
 omega
def rpMark (r:Rul)(sp ar:Bool)(q:Int)(m:Mrk):Mrk:=
 let m2:=rchg r (yO r m) sp ar q
 ⟨m2.w,if ar=true then min 65535 (W (m2.x+r.gain))else m2.x,if sp=true then min 65535 (W (m2.y+r.gain))else m2.y,m2.e⟩
def rpStep (S:List Syn)(rs:List Rul)(pl:List Int)(arr spk:List Bool)(rw0:List Int)(m:List Mrk)(i:Nat):List Mrk:=
 if pl.getD i (-1)<0 then m else m.set i (rpMark (rs.getD (pl.getD i (-1)).toNat q8) (spk.getD (S.getD i qX).to.toNat false) (arr.getD i false) (rw0.getD (pl.getD i (-1)).toNat 0) (m.getD i qM))
def rpY (S:List Syn)(rs:List Rul)(pl:List Int)(arr spk:List Bool)(rw0:List Int)(m:List Mrk)(j:Nat):List Mrk:=(List.range j).foldl (rpStep S rs pl arr spk rw0) m
theorem rpY_succ (S:List Syn)(rs:List Rul)(pl:List Int)(arr spk:List Bool)(rw0:List Int)(m:List Mrk)(j:Nat):rpY S rs pl arr spk rw0 m (j+1)=rpStep S rs pl arr spk rw0 (rpY S rs pl arr spk rw0 m j) j:=kN ..
theorem wY (S:List Syn)(rs:List Rul)(pl:List Int)(arr spk:List Bool)(rw0:List Int)(m:List Mrk) :∀j,(rpY S rs pl arr spk rw0 m j).length=m.length
 | 0=>rfl
 |j+1=>by
  rw[rpY_succ]
  unfold rpStep
  split
  ·exact wY S rs pl arr spk rw0 m j
  ·rw[List.length_set];exact wY S rs pl arr spk rw0 m j
theorem mem_take_succ {l:List Int}{k:Nat}{a:Int}(h:k<l.length):decide (a∈l.take (k+1))=(decide (a∈l.take k)||(l[k]==a)):=by
 rw[←List.take_append_getElem h]
 simp only[List.mem_append,List.mem_singleton]
 by_cases h1:a∈l.take k
 ·simp[h1]
 ·by_cases h2:a=l[k]
  ·simp[h2]
  ·have h3:(l[k]==a)=false:=by rw[beq_eq_false_iff_ne];exact fun h=>h2 h.symm
   simp[h1,h2,h3]
abbrev goB (rs:List Rul)(N:List Prm)(sn tt:Nat→List Int)(plp:List (Nat×Nat×Nat×(Option Addr×Nat×Nat))):List (Nat×SObj):=((9,.rwin 1 (sn 0).length (qB (sn 0)))::(10,.rwin 1 (sn 1).length (qB (sn 1)))::(11,.rwin 1 (sn 2).length (qB (sn 2)))::(12,.rwin 1 (sn 3).length (qB (sn 3)))::(13,.rwin 1 (sn 4).length (qB (sn 4)))::(14,.rwin 1 (sn 5).length (qB (sn 5)))::(15,.rwin 1 (sn 6).length (qB (sn 6)))::(16,.rwin 1 (sn 7).length (qB (sn 7)))::(17,.rwin 1 (sn 8).length (qB (sn 8)))::(18,.rwin 1 (sn 9).length (qB (sn 9)))::(19,.rwin 1 (sn 10).length (qB (sn 10)))::(20,.rwin 1 (sn 11).length (qB (sn 11)))::(21,.rwin 1 (sn 12).length (qB (sn 12)))::(22,.rwin 1 (sn 13).length (qB (sn 13)))::(23,.rwin 1 (sn 14).length (qB (sn 14)))::(24,.rwin 1 (sn 15).length (qB (sn 15)))::(25,.rwin 1 (cN rs.length N.length 0) (qB (tt 0)))::(26,.rwin 1 (cN rs.length N.length 1) (qB (tt 1)))::(27,.rwin 1 (cN rs.length N.length 2) (qB (tt 2)))::(28,.rwin 1 (cN rs.length N.length 3) (qB (tt 3)))::(29,.rwin 1 (cN rs.length N.length 4) (qB (tt 4)))::(30,.rwin 1 (cN rs.length N.length 5) (qB (tt 5)))::(31,.rwin 1 (cN rs.length N.length 6) (qB (tt 6)))::(32,.rwin 1 (cN rs.length N.length 7) (qB (tt 7)))::(33,.rwin 1 (cN rs.length N.length 8) (qB (tt 8)))::(34,.rwin 1 (cN rs.length N.length 9) (qB (tt 9)))::(35,.rwin 1 (cN rs.length N.length 10) (qB (tt 10)))::(36,.rwin 1 (cN rs.length N.length 11) (qB (tt 11)))::(37,.rwin 1 (cN rs.length N.length 12) (qB (tt 12)))::(38,.rwin 1 (cN rs.length N.length 13) (qB (tt 13)))::(39,.rwin 1 (cN rs.length N.length 14) (qB (tt 14)))::(40,.rwin 1 (cN rs.length N.length 15) (qB (tt 15)))::(43,.pin plp)::[])
theorem rGo_spec (tk inp:Int)(N:List Prm)(S:List Syn)(st:List Ste)(rs:List Rul)(pl:List Int)(m:List Mrk)(sn tt:Nat→List Int)(inputs rw0:List Int)(hN1:1≤N.length)(hN:N.length≤1024)(hS:S.length≤8192)(hR:rs.length≤16)(hp:pl.length=S.length)(hm:m.length=S.length)(hst:st.length=N.length)(hrw:rw0.length=rs.length)(hsn :∀k,(sn k).length≤100000)(hin:inputs.length≤100000)(hp0 :∀i (h:i<pl.length),pl[i]<(rs.length:Int))(ht0 :∀i (h:i<S.length),0≤S[i].to)(ht1 :∀i (h:i<S.length),S[i].to<(N.length:Int))(hd0 :∀i (h:i<S.length),1≤S[i].d)(hd1 :∀i (h:i<S.length),S[i].d≤16)(hsh :∀i (h:i<rs.length),0≤rs[i].shift∧rs[i].shift≤16)(A:List Bool×List Int)(hA:raL sn S m N.length=A)(Z:List Ste×List Bool×List Int)(hZ:rnL N A.2 st=Z)(mP:List Mrk)(hP:rpY S rs pl A.1 Z.2.1 rw0 m S.length=mP)(Kf:Nat→Nat→Nat)(htt :∀k,(tt k).length=cN rs.length N.length k)(hK:RgOK S rs pl tt (rsL S pl mP rs.length N.length) N.length Kf mP) :
  BSpec Try.prog 56 [.ptr 0 0,.opq 41,.opq 42] ((0,.cells (zS (ii tk) inp) 108)::(1,.rwin 8 N.length (N.flatMap Prm.vals))::(2,.rwin 4 S.length (S.flatMap Syn.vals))::(3,.row 2 N.length (st.flatMap Ste.cells) 139)::(4,.rwin 10 rs.length (rs.flatMap Rul.vals))::(5,.rwin 1 pl.length (qB pl))::(6,.row 4 S.length (m.flatMap Mrk.cells) 141)::(7,.row 1 rs.length (zT 25 rs.length) 27)::(8,.row 1 16 [.opq 9,.opq 10,.opq 11,.opq 12,.opq 13,.opq 14,.opq 15,.opq 16,.opq 17,.opq 18,.opq 19,.opq 20,.opq 21,.opq 22,.opq 23,.opq 24] 27)::(41,.rwin 1 inputs.length (qB inputs))::(42,.rwin 1 rw0.length (qB rw0))::(9,.rwin 1 (sn 0).length (qB (sn 0)))::(10,.rwin 1 (sn 1).length (qB (sn 1)))::(11,.rwin 1 (sn 2).length (qB (sn 2)))::(12,.rwin 1 (sn 3).length (qB (sn 3)))::(13,.rwin 1 (sn 4).length (qB (sn 4)))::(14,.rwin 1 (sn 5).length (qB (sn 5)))::(15,.rwin 1 (sn 6).length (qB (sn 6)))::(16,.rwin 1 (sn 7).length (qB (sn 7)))::(17,.rwin 1 (sn 8).length (qB (sn 8)))::(18,.rwin 1 (sn 9).length (qB (sn 9)))::(19,.rwin 1 (sn 10).length (qB (sn 10)))::(20,.rwin 1 (sn 11).length (qB (sn 11)))::(21,.rwin 1 (sn 12).length (qB (sn 12)))::(22,.rwin 1 (sn 13).length (qB (sn 13)))::(23,.rwin 1 (sn 14).length (qB (sn 14)))::(24,.rwin 1 (sn 15).length (qB (sn 15)))::(25,.rwin 1 (cN rs.length N.length 0) (qB (tt 0)))::(26,.rwin 1 (cN rs.length N.length 1) (qB (tt 1)))::(27,.rwin 1 (cN rs.length N.length 2) (qB (tt 2)))::(28,.rwin 1 (cN rs.length N.length 3) (qB (tt 3)))::(29,.rwin 1 (cN rs.length N.length 4) (qB (tt 4)))::(30,.rwin 1 (cN rs.length N.length 5) (qB (tt 5)))::(31,.rwin 1 (cN rs.length N.length 6) (qB (tt 6)))::(32,.rwin 1 (cN rs.length N.length 7) (qB (tt 7)))::(33,.rwin 1 (cN rs.length N.length 8) (qB (tt 8)))::(34,.rwin 1 (cN rs.length N.length 9) (qB (tt 9)))::(35,.rwin 1 (cN rs.length N.length 10) (qB (tt 10)))::(36,.rwin 1 (cN rs.length N.length 11) (qB (tt 11)))::(37,.rwin 1 (cN rs.length N.length 12) (qB (tt 12)))::(38,.rwin 1 (cN rs.length N.length 13) (qB (tt 13)))::(39,.rwin 1 (cN rs.length N.length 14) (qB (tt 14)))::(40,.rwin 1 (cN rs.length N.length 15) (qB (tt 15)))::[]) 43 [0,3,6,7,8] (.opq 43) [(43,.row 1 Z.2.2.length (Z.2.2.map fun x=>ii x) 3),(44,.row 1 (sL inputs Z.2.2 inputs.length).length ((sL inputs Z.2.2 inputs.length).map fun x=>ii x) 3),(45,.row 1 16 [.opq 44,.opq 9,.opq 10,.opq 11,.opq 12,.opq 13,.opq 14,.opq 15,.opq 16,.opq 17,.opq 18,.opq 19,.opq 20,.opq 21,.opq 22,.opq 23] 27),(0,.cells (xY (ii (W (tk+1))) inp 45) 108),(3,.row 2 N.length (Z.1.flatMap Ste.cells) 139),(6,.row 4 S.length ((rgY S rs pl tt (rsL S pl mP rs.length N.length) N.length Kf mP rs.length).flatMap Mrk.cells) 141),(7,.row 1 rs.length (zT 25 rs.length) 27)] 46:=by
 obtain⟨FG,hFG⟩ :∃FG,FPSI goSV=FG:=⟨_,rfl⟩
 obtain⟨FC,hFC⟩ :∃FC,zV FCh_v=FC:=⟨_,rfl⟩
 obtain⟨FT,hFT⟩ :∃FT,zV FTw_v=FT:=⟨_,rfl⟩
 have hGo :∀(p:Prm) (s:Ste) (x:Int) (M:Mem),FG M [.agg (p.vals.map .v),.agg s.cells,ii x]=some ([],.tup [.agg [ii (yA p s x).v,ii (yA p s x).rest],.v (.bool (yM p s x))]):=fun p s x M=>by rw[←hFG];rfl
 obtain⟨gs,hgs⟩ :∃gs,yA=gs:=⟨_,rfl⟩
 obtain⟨gb,hgb⟩ :∃gb,yM=gb:=⟨_,rfl⟩
 rw[hgs,hgb]at hGo
 obtain⟨arr,inq⟩:=A
 obtain⟨zs,zb,zo⟩:=Z
 have hA':raY sn S m N.length S.length=(arr,inq):=hA
 have hZ':rnY gs gb N inq st N.length=(zs,zb,zo):=by rw[←hgs,←hgb];exact hZ
 have hP':rpY S rs pl arr zb rw0 m S.length=mP:=hP
 have hmPl:mP.length=S.length:=by rw[←hP',wY,hm]
 have hTw :∀(a:Int) (M:Mem),FT M [ii a]=some ([],ii (W (a.tdiv 256))):=fun a M=>by rw[←hFT];rfl
 have hpf:PF.oks Try.prog [(87,FG),(89,FC),(88,FT)]:=by rw[←hFG,←hFC,←hFT];exact⟨go_pure,change3_pure,rI,trivial⟩
 have hc :∀w L' rd,(∀p,rd=some p→p∈L')→Cx.ok ⟨Try.prog,tab,[(87,FG),(89,FC),(88,FT)],56,Try.f56,[],w,L',rd⟩:=fun w L' rd h=>⟨qI,hpf,Try.func56,mixed,h⟩
 refine BSpec.start (tab:=tab) (pf:=[(87,FG),(89,FC),(88,FT)]) (cuts:=[]) Try.func56 rfl ⟨(show 0<43 by decide),(show 41<43 by decide),ltb rfl,trivial⟩ rfl fun w L0 plp hL' hLB hcov=> ?_
 generalize hRR:SpecR _ _ _ _ _ _=RR
 refine Run.r8 (hc w L0 none nofun) 100 _ ?_
 conv=>whnf
 rw[kK (m:=S.length) rfl rfl rfl rfl rfl rfl (by omega) (by omega),show List.replicate S.length (SV.v (.bool false))=(List.replicate S.length false).map fun b=>.v (.bool b)by simp]
 conv=>whnf
 rw[kK (m:=N.length) rfl rfl rfl rfl rfl rfl (by omega) (by omega),show List.replicate N.length (SV.v (.int .i64 0))=(List.replicate N.length (0:Int)).map fun x=>ii x by simp[ii]]
 conv=>whnf
 refine Run.lJ (T:=fun i=>[(0,.ptr 0 0),(1,.opq 41),(2,.opq 42),(6,nq),(7,.opq 44),(8,.opq 45),(9,ii ((i:Nat):Int))]) (M:=fun i=>((44,.row 1 S.length ((raY sn S m N.length i).1.map fun b=>.v (.bool b)) 4)::(45,.row 1 N.length ((raY sn S m N.length i).2.map fun x=>ii x) 3)::(0,.cells (zS (ii tk) inp) 108)::(1,.rwin 8 N.length (N.flatMap Prm.vals))::(2,.rwin 4 S.length (S.flatMap Syn.vals))::(3,.row 2 N.length (st.flatMap Ste.cells) 139)::(4,.rwin 10 rs.length (rs.flatMap Rul.vals))::(5,.rwin 1 pl.length (qB pl))::(6,.row 4 S.length (m.flatMap Mrk.cells) 141)::(7,.row 1 rs.length (zT 25 rs.length) 27)::(8,.row 1 16 [.opq 9,.opq 10,.opq 11,.opq 12,.opq 13,.opq 14,.opq 15,.opq 16,.opq 17,.opq 18,.opq 19,.opq 20,.opq 21,.opq 22,.opq 23,.opq 24] 27)::(41,.rwin 1 inputs.length (qB inputs))::(42,.rwin 1 rw0.length (qB rw0))::goB rs N sn tt plp)) 50 (fun _=>True) S.length (by repeat first|exact trivial|refine⟨⟨rfl,ltb rfl⟩,?_⟩|refine⟨⟨rfl,trivial⟩,?_⟩) (by repeat first|exact trivial|refine⟨⟨rfl,by omega,Os.h _⟩,?_⟩|refine⟨⟨rfl,by omega,qC _ rfl⟩,?_⟩|refine⟨kw rfl rfl,?_⟩|refine⟨⟨rfl,by omega,qO (by omega)⟩,?_⟩|refine⟨⟨rfl,by omega,pnx hcov rfl⟩,?_⟩) (lbx hLB rfl) trivial ?_ ?_
 ·intro i hi _ ih
  refine Run.W2 hc ?_
  conv=>whnf
  rw[decide_eq_true (show((i:Nat):Int)<(S.length:Int)by omega)]
  conv=>whnf
  refine⟨by omega,?_⟩
  conv=>whnf
  rw[zZ (f:=Syn.vals) (l:=S) i rfl rfl rfl rfl rfl Syn.vlen (by rw[qE]) hi]
  conv=>whnf
  have hsd:S.getD i qX=S[i]:=by simp[List.getD_eq_getElem?_getD,hi]
  have him:i<m.length:=by omega
  have hmd:m.getD i qM=m[i]:=by simp[List.getD_eq_getElem?_getD,him]
  have e:=t9 sn S m N.length i
  have hal:=raY_len sn S m N.length i
  have hge:=raY_ge sn S m N.length i i (Nat.le_refl i)
  unfold raStep at e
  rw[hsd,hmd]at e
  have hy0:=ht0 i hi
  have hy1:=ht1 i hi
  have hy2:=hd0 i hi
  have hy3:=hd1 i hi
  obtain⟨y,hy⟩ :∃y,S[i]=y:=⟨_,rfl⟩
  obtain⟨mk,hmk⟩ :∃mk,m[i]=mk:=⟨_,rfl⟩
  rw[hy]at hy0 hy1 hy2 hy3 e ⊢
  rw[hmk]at e
  obtain⟨A2,hA2⟩ :∃A,raY sn S m N.length i=A:=⟨_,rfl⟩
  rw[hA2]at e hal hge ⊢
  obtain⟨arr,inq⟩:=A2
  simp only at e hal hge
  obtain⟨hal1,hal2⟩:=hal
  have hia:i<arr.length:=by omega
  have harr0:arr=arr.set i false:=by
   have h1:arr[i]=false:=by
    rw[List.getElem?_eq_getElem hia,List.getElem?_replicate,if_pos hi]at hge
    exact Option.some.inj hge
   rw[←h1,List.set_getElem_self]
  rw[e]at ih
  have hgb :∀b:Bool,((arr.set i b).map fun b=>SV.v (.bool b))[i]? = some (.v (.bool b)):=fun b=>by
   rw[List.getElem?_map,List.getElem?_set_self hia];rfl
  obtain⟨D,hD⟩ :∃D:Nat,y.d=(D:Int)+1:=⟨(y.d-1).toNat,by omega⟩
  have hDt:(y.d-1).toNat=D:=by omega
  have hDw:IntKind.i64.wrap (y.d-1)=(D:Int):=by rw[hD];show W _=_;rw[zL (by omega) (by omega)];omega
  have hD16:D<16:=by omega
  have hrb:raB sn y=decide (y.fr∈sn D):=by unfold raB;rw[hDt]
  obtain⟨b,hb⟩ :∃b,raB sn y=b:=⟨_,rfl⟩
  rw[hb]at ih
  have hbd:decide (y.fr∈sn D)=b:=by rw[←hrb,hb]
  apply joinL (c:=⟨Try.prog,tab,[(87,FG),(89,FC),(88,FT)],56,Try.f56,[],w,L0,none⟩) (R:=RR) [(0,.ptr 0 0),(1,.opq 41),(2,.opq 42),(6,nq),(7,.opq 44),(8,.opq 45),(9,ii ((i:Nat):Int)),(10,.ptr 50 0),(11,.opq 61),(12,ii (((0:Nat):Nat):Int))] ((61,.rwin 1 (sn D).length (qB (sn D)))::(50,.cells (y.vals.map .v) 55)::(44,.row 1 S.length ((arr.set i false).map fun b=>.v (.bool b)) 4)::(45,.row 1 N.length (inq.map fun x=>ii x) 3)::(0,.cells (zS (ii tk) inp) 108)::(1,.rwin 8 N.length (N.flatMap Prm.vals))::(2,.rwin 4 S.length (S.flatMap Syn.vals))::(3,.row 2 N.length (st.flatMap Ste.cells) 139)::(4,.rwin 10 rs.length (rs.flatMap Rul.vals))::(5,.rwin 1 pl.length (qB pl))::(6,.row 4 S.length (m.flatMap Mrk.cells) 141)::(7,.row 1 rs.length (zT 25 rs.length) 27)::(8,.row 1 16 [.opq 9,.opq 10,.opq 11,.opq 12,.opq 13,.opq 14,.opq 15,.opq 16,.opq 17,.opq 18,.opq 19,.opq 20,.opq 21,.opq 22,.opq 23,.opq 24] 27)::(41,.rwin 1 inputs.length (qB inputs))::(42,.rwin 1 rw0.length (qB rw0))::goB rs N sn tt plp) 64
  ·intro tail
   rcases lt16 hD16 with rfl|rfl|rfl|rfl|rfl|rfl|rfl|rfl|rfl|rfl|rfl|rfl|rfl|rfl|rfl|rfl
   all_goals
    refine Run.draw (hc w L0 none nofun) 9 ?_
    conv=>whnf
    rw[hDw]
    refine⟨by decide,?_⟩
    conv=>whnf
    refine⟨by kernel_rfl,?_⟩
    refine Run.W2 hc ?_
    conv=>whnf
    refine Run.again (T':=[(0,.ptr 0 0),(1,.opq 41),(2,.opq 42),(6,nq),(7,.opq 44),(8,.opq 45),(9,ii ((i:Nat):Int)),(10,.ptr 50 0),(11,.opq 61),(12,ii (((0:Nat):Nat):Int))]) _ (by rfl) (AllP.mem ⟨.inl rfl,.inl rfl,.inl rfl,.inl rfl,.inl rfl,.inl rfl,.inl rfl,.inl rfl,.inr ⟨rfl,rfl⟩,.inl rfl,trivial⟩) ?_
    exact Run.tH tail (by repeat first|exact trivial|refine⟨⟨rfl,ltb rfl⟩,?_⟩|refine⟨⟨rfl,trivial⟩,?_⟩) (by repeat first|exact trivial|refine⟨kw rfl rfl,?_⟩|refine⟨⟨rfl,by omega,Os.h _⟩,?_⟩|refine⟨⟨rfl,by omega,qC _ rfl⟩,?_⟩|refine⟨⟨rfl,by omega,qO (by omega)⟩,?_⟩|refine⟨⟨rfl,by omega,pnx hcov rfl⟩,?_⟩|refine⟨⟨by rw[←harr0];rfl,by omega,Os.h _⟩,?_⟩) (lbx hLB rfl)
  apply joinL (c:=⟨Try.prog,tab,[(87,FG),(89,FC),(88,FT)],56,Try.f56,[],w,L0,none⟩) (R:=RR) [(0,.ptr 0 0),(1,.opq 41),(2,.opq 42),(6,nq),(7,.opq 44),(8,.opq 45),(9,ii ((i:Nat):Int)),(10,.ptr 50 0)] ((50,.cells (y.vals.map .v) 55)::(44,.row 1 S.length ((arr.set i b).map fun b=>.v (.bool b)) 4)::(45,.row 1 N.length (inq.map fun x=>ii x) 3)::(0,.cells (zS (ii tk) inp) 108)::(1,.rwin 8 N.length (N.flatMap Prm.vals))::(2,.rwin 4 S.length (S.flatMap Syn.vals))::(3,.row 2 N.length (st.flatMap Ste.cells) 139)::(4,.rwin 10 rs.length (rs.flatMap Rul.vals))::(5,.rwin 1 pl.length (qB pl))::(6,.row 4 S.length (m.flatMap Mrk.cells) 141)::(7,.row 1 rs.length (zT 25 rs.length) 27)::(8,.row 1 16 [.opq 9,.opq 10,.opq 11,.opq 12,.opq 13,.opq 14,.opq 15,.opq 16,.opq 17,.opq 18,.opq 19,.opq 20,.opq 21,.opq 22,.opq 23,.opq 24] 27)::(41,.rwin 1 inputs.length (qB inputs))::(42,.rwin 1 rw0.length (qB rw0))::goB rs N sn tt plp) 64
  ·intro tail
   have hbk0:decide (y.fr∈(sn D).take 0)=false:=by simp
   refine Run.lJ (T:=fun k=>[(0,.ptr 0 0),(1,.opq 41),(2,.opq 42),(6,nq),(7,.opq 44),(8,.opq 45),(9,ii ((i:Nat):Int)),(10,.ptr 50 0),(11,.opq 61),(12,ii ((k:Nat):Int))]) (M:=fun k=>((61,.rwin 1 (sn D).length (qB (sn D)))::(50,.cells (y.vals.map .v) 55)::(44,.row 1 S.length ((arr.set i (decide (y.fr∈(sn D).take k))).map fun b=>.v (.bool b)) 4)::(45,.row 1 N.length (inq.map fun x=>ii x) 3)::(0,.cells (zS (ii tk) inp) 108)::(1,.rwin 8 N.length (N.flatMap Prm.vals))::(2,.rwin 4 S.length (S.flatMap Syn.vals))::(3,.row 2 N.length (st.flatMap Ste.cells) 139)::(4,.rwin 10 rs.length (rs.flatMap Rul.vals))::(5,.rwin 1 pl.length (qB pl))::(6,.row 4 S.length (m.flatMap Mrk.cells) 141)::(7,.row 1 rs.length (zT 25 rs.length) 27)::(8,.row 1 16 [.opq 9,.opq 10,.opq 11,.opq 12,.opq 13,.opq 14,.opq 15,.opq 16,.opq 17,.opq 18,.opq 19,.opq 20,.opq 21,.opq 22,.opq 23,.opq 24] 27)::(41,.rwin 1 inputs.length (qB inputs))::(42,.rwin 1 rw0.length (qB rw0))::goB rs N sn tt plp)) 64 (fun _=>True) (sn D).length (by repeat first|exact trivial|refine⟨⟨rfl,ltb rfl⟩,?_⟩|refine⟨⟨rfl,trivial⟩,?_⟩) (by repeat first|exact trivial|refine⟨kw rfl rfl,?_⟩|refine⟨⟨rfl,by omega,Os.h _⟩,?_⟩|refine⟨⟨rfl,by omega,qC _ rfl⟩,?_⟩|refine⟨⟨rfl,by omega,qO (by omega)⟩,?_⟩|refine⟨⟨rfl,by omega,pnx hcov rfl⟩,?_⟩|refine⟨⟨by rw[hbk0];rfl,by omega,Os.h _⟩,?_⟩) (lbx hLB rfl) trivial ?_ ?_
   ·intro k hk _ ih2
    have hs0:=hsn D
    have hek:decide (y.fr∈(sn D).take (k+1))=(decide (y.fr∈(sn D).take k)||((sn D)[k]==y.fr)):=mem_take_succ hk
    rw[hek]at ih2
    generalize decide (y.fr∈(sn D).take k)=b at ih2 ⊢
    refine Run.W2 hc ?_
    conv=>whnf
    rw[decide_eq_true (show((k:Nat):Int)<((sn D).length:Int)by omega)]
    conv=>whnf
    refine Run.draw (hc w L0 none nofun) 17 ?_
    rw[show qD 0 17=qD 0 5++(qD 5 1++(qD 6 1++(qD 7 3++(qD 10 1++(qD 11 5++qD 16 1)))))from rfl]
    simp only[qN]
    conv=>whnf
    refine⟨by omega,?_⟩
    conv=>whnf
    rw[q9 (c:=.v (.bool b)) i rfl rfl rfl rfl (by rw[qE,Nat.mul_one]) (hgb b)]
    conv=>whnf
    cases b
    ·conv=>whnf
     refine⟨by omega,?_⟩
     conv=>whnf
     rw[qY k rfl rfl rfl rfl (by rw[qE,Nat.mul_one]) (zA hk)]
     conv=>whnf
     refine⟨by omega,?_⟩
     conv=>whnf
     rw[zJ (v:=.v (.bool ((sn D)[k]==y.fr))) i rfl rfl rfl rfl rfl (by rw[qE,Nat.mul_one]) (by rw[List.length_map,List.length_set];omega) rfl rfl,set_map_b]
     conv=>whnf
     refine⟨by kernel_rfl,?_⟩
     refine Run.W2 hc ?_
     conv=>whnf
     rw[Bool.false_or]at ih2
     exact Run.tH (ih2 trivial) (by repeat first|exact trivial|refine⟨⟨rfl,ltb rfl⟩,?_⟩|refine⟨⟨rfl,trivial⟩,?_⟩|refine⟨⟨wsx (by omega),trivial⟩,?_⟩) (by repeat first|exact trivial|refine⟨kw rfl rfl,?_⟩|refine⟨⟨rfl,by omega,Os.h _⟩,?_⟩|refine⟨⟨rfl,by omega,qC _ rfl⟩,?_⟩|refine⟨⟨rfl,by omega,qO (by omega)⟩,?_⟩|refine⟨⟨rfl,by omega,pnx hcov rfl⟩,?_⟩) (lbx hLB rfl)
    ·conv=>whnf
     refine⟨by omega,?_⟩
     conv=>whnf
     rw[zJ (v:=.v (.bool (true))) i rfl rfl rfl rfl rfl (by rw[qE,Nat.mul_one]) (by rw[List.length_map,List.length_set];omega) rfl rfl,set_map_b]
     conv=>whnf
     refine⟨by kernel_rfl,?_⟩
     refine Run.W2 hc ?_
     conv=>whnf
     rw[Bool.true_or]at ih2
     exact Run.tH (ih2 trivial) (by repeat first|exact trivial|refine⟨⟨rfl,ltb rfl⟩,?_⟩|refine⟨⟨rfl,trivial⟩,?_⟩|refine⟨⟨wsx (by omega),trivial⟩,?_⟩) (by repeat first|exact trivial|refine⟨kw rfl rfl,?_⟩|refine⟨⟨rfl,by omega,Os.h _⟩,?_⟩|refine⟨⟨rfl,by omega,qC _ rfl⟩,?_⟩|refine⟨⟨rfl,by omega,qO (by omega)⟩,?_⟩|refine⟨⟨rfl,by omega,pnx hcov rfl⟩,?_⟩) (lbx hLB rfl)
   ·intro _
    refine Run.r8 (hc w L0 none nofun) 10 _ ?_
    conv=>whnf
    rw[decide_eq_false (show ¬(((sn D).length:Nat):Int)<((sn D).length:Int)by omega),List.take_length,hbd]
    conv=>whnf
    exact Run.tH tail (by repeat first|exact trivial|refine⟨⟨rfl,ltb rfl⟩,?_⟩|refine⟨⟨rfl,trivial⟩,?_⟩) (by repeat first|exact trivial|refine⟨⟨rfl,by omega,Os.h _⟩,?_⟩|refine⟨⟨rfl,by omega,qC _ rfl⟩,?_⟩|refine⟨kw rfl rfl,?_⟩|refine⟨⟨rfl,by omega,qO (by omega)⟩,?_⟩|refine⟨⟨rfl,by omega,pnx hcov rfl⟩,?_⟩) (lbx hLB rfl)
  refine Run.W2 hc ?_
  conv=>whnf
  refine⟨by omega,?_⟩
  conv=>whnf
  rw[q9 (c:=.v (.bool b)) i rfl rfl rfl rfl (by rw[qE,Nat.mul_one]) (hgb b)]
  conv=>whnf
  cases b
  ·conv=>whnf
   exact Run.tH (ih trivial) ⟨⟨rfl,ltb rfl⟩,⟨rfl,ltb rfl⟩,⟨rfl,ltb rfl⟩,⟨rfl,trivial⟩,⟨rfl,ltb rfl⟩,⟨rfl,ltb rfl⟩,⟨wsx (by omega),trivial⟩,trivial⟩ (by repeat first|exact trivial|refine⟨⟨rfl,by omega,Os.h _⟩,?_⟩|refine⟨⟨rfl,by omega,qC _ rfl⟩,?_⟩|refine⟨kw rfl rfl,?_⟩|refine⟨⟨rfl,by omega,qO (by omega)⟩,?_⟩|refine⟨⟨rfl,by omega,pnx hcov rfl⟩,?_⟩) (lbx hLB rfl)
  obtain⟨p,hp'⟩:=Int.eq_ofNat_of_zero_le hy0
  have hpN:p<N.length:=by omega
  rw[hp',show((p:Nat):Int).toNat=p from Int.toNat_natCast p]at ih
  have hgp:(inq.map fun x=>ii x)[p]? = some (ii (inq.getD p 0)):=by
   rw[List.getElem?_map,List.getElem?_eq_getElem (by omega),List.getD_eq_getElem?_getD,List.getElem?_eq_getElem (by omega)];rfl
  conv=>whnf
  refine Run.draw (hc w L0 none nofun) 16 ?_
  rw[show qD 0 16=qD 0 3++(qD 3 1++(qD 4 1++(qD 5 6++(qD 11 2++(qD 13 2++qD 15 1)))))from rfl]
  simp only[qN]
  conv=>whnf
  rw[hp']
  refine⟨by omega,?_⟩
  conv=>whnf
  rw[q9 p rfl rfl rfl rfl (by rw[qE,Nat.mul_one]) hgp]
  conv=>whnf
  refine⟨by omega,?_⟩
  conv=>whnf
  rw[j8 (f:=Mrk.cells) (l:=m) i 0 rfl rfl rfl rfl Mrk.clen (by rw[qE]) him (by decide) rfl,hmk]
  conv=>whnf
  refine⟨by omega,?_⟩
  conv=>whnf
  rw[zJ p rfl rfl rfl rfl rfl (by rw[qE,Nat.mul_one]) (by rw[List.length_map];omega) rfl rfl]
  conv=>whnf
  refine⟨by kernel_rfl,?_⟩
  refine Run.W2 hc ?_
  conv=>whnf
  exact Run.tH (ih trivial) ⟨⟨rfl,ltb rfl⟩,⟨rfl,ltb rfl⟩,⟨rfl,ltb rfl⟩,⟨rfl,trivial⟩,⟨rfl,ltb rfl⟩,⟨rfl,ltb rfl⟩,⟨wsx (by omega),trivial⟩,trivial⟩ (by repeat first|exact trivial|refine⟨⟨rfl,by omega,Os.h _⟩,?_⟩|refine⟨⟨rfl,by omega,qC _ rfl⟩,?_⟩|refine⟨kw rfl rfl,?_⟩|refine⟨⟨rfl,by omega,qO (by omega)⟩,?_⟩|refine⟨⟨rfl,by omega,pnx hcov rfl⟩,?_⟩|refine⟨⟨(show _=some (SObj.row 1 N.length ((inq.set p (W (inq.getD p 0+mk.w))).map fun x=>ii x) 3)from congrArg some (by rw[List.map_set];rfl)),by omega,Os.h _⟩,?_⟩) (lbx hLB rfl)
 ·intro _
  refine Run.W2 hc ?_
  conv=>whnf
  rw[decide_eq_false (show ¬((S.length:Nat):Int)<(S.length:Int)by omega)]
  conv=>whnf
  rw[kK (m:=N.length) rfl rfl rfl rfl rfl rfl (by omega) (by omega),show List.replicate N.length (SV.v (.bool false))=(List.replicate N.length false).map fun b=>.v (.bool b)by simp]
  conv=>whnf
  have hAl:=raY_len sn S m N.length S.length
  rw[hA']at hAl ⊢
  simp only at hAl
  obtain⟨hal1,hal2⟩:=hAl
  refine Run.r9 (T':=[(0,.ptr 0 0),(1,.opq 41),(2,.opq 42),(7,.opq 44),(8,.opq 45),(13,.opq 50),(14,nq),(15,nq),(16,ii ((0:Nat):Int))]) (M':=((50,.row 1 N.length ((List.replicate N.length false).map fun b=>.v (.bool b)) 4)::(3,.row 2 N.length (st.flatMap Ste.cells) 139)::(44,.row 1 S.length (arr.map fun b=>.v (.bool b)) 4)::(45,.row 1 N.length (inq.map fun x=>ii x) 3)::(0,.cells (zS (ii tk) inp) 108)::(1,.rwin 8 N.length (N.flatMap Prm.vals))::(2,.rwin 4 S.length (S.flatMap Syn.vals))::(4,.rwin 10 rs.length (rs.flatMap Rul.vals))::(5,.rwin 1 pl.length (qB pl))::(6,.row 4 S.length (m.flatMap Mrk.cells) 141)::(7,.row 1 rs.length (zT 25 rs.length) 27)::(8,.row 1 16 [.opq 9,.opq 10,.opq 11,.opq 12,.opq 13,.opq 14,.opq 15,.opq 16,.opq 17,.opq 18,.opq 19,.opq 20,.opq 21,.opq 22,.opq 23,.opq 24] 27)::(41,.rwin 1 inputs.length (qB inputs))::(42,.rwin 1 rw0.length (qB rw0))::goB rs N sn tt plp)) 51 (by repeat first|exact trivial|refine⟨⟨rfl,ltb rfl⟩,?_⟩|refine⟨⟨rfl,trivial⟩,?_⟩) (by repeat first|exact trivial|refine⟨⟨rfl,by omega,Os.h _⟩,?_⟩|refine⟨⟨rfl,by omega,qC _ rfl⟩,?_⟩|refine⟨kw rfl rfl,?_⟩|refine⟨⟨rfl,by omega,qO (by omega)⟩,?_⟩|refine⟨⟨rfl,by omega,pnx hcov rfl⟩,?_⟩) (lbx hLB rfl) ?_
  refine Run.p9 (T':=[(0,.ptr 0 0),(1,.opq 41),(2,.opq 42),(7,.opq 44),(8,.opq 45),(13,.opq 50),(14,.opq 51),(15,nq),(16,ii ((0:Nat):Int))]) (M':=((51,.row 1 0 [] 3)::(50,_)::(3,_)::(44,_)::(45,_)::(0,_)::(1,_)::(2,_)::(4,_)::(5,_)::(6,_)::(7,_)::(8,_)::(41,_)::(42,_)::(9,_)::(10,_)::(11,_)::(12,_)::(13,_)::(14,_)::(15,_)::(16,_)::(17,_)::(18,_)::(19,_)::(20,_)::(21,_)::(22,_)::(23,_)::(24,_)::(25,_)::(26,_)::(27,_)::(28,_)::(29,_)::(30,_)::(31,_)::(32,_)::(33,_)::(34,_)::(35,_)::(36,_)::(37,_)::(38,_)::(39,_)::(40,_)::(43,_)::[])) 1 3 (AllP.mem (by repeat first|exact trivial|refine⟨⟨_,rfl,.inl rfl⟩,?_⟩|refine⟨⟨_,rfl,.inr ⟨rfl,rfl⟩⟩,?_⟩)) (AllP.mem (by repeat first|exact trivial|refine⟨.inl rfl,?_⟩|refine⟨.inr ⟨_,rfl,.inl rfl⟩,?_⟩)) ?_
  refine Run.p9 (T':=[(0,.ptr 0 0),(1,.opq 41),(2,.opq 42),(7,.opq 44),(8,.opq 45),(13,.opq 50),(14,.opq 51),(15,.opq 52),(16,ii ((0:Nat):Int))]) (M':=((52,.row 1 0 [] 3)::(51,_)::(50,_)::(3,_)::(44,_)::(45,_)::(0,_)::(1,_)::(2,_)::(4,_)::(5,_)::(6,_)::(7,_)::(8,_)::(41,_)::(42,_)::(9,_)::(10,_)::(11,_)::(12,_)::(13,_)::(14,_)::(15,_)::(16,_)::(17,_)::(18,_)::(19,_)::(20,_)::(21,_)::(22,_)::(23,_)::(24,_)::(25,_)::(26,_)::(27,_)::(28,_)::(29,_)::(30,_)::(31,_)::(32,_)::(33,_)::(34,_)::(35,_)::(36,_)::(37,_)::(38,_)::(39,_)::(40,_)::(43,_)::[])) 1 3 (AllP.mem (by repeat first|exact trivial|refine⟨⟨_,rfl,.inl rfl⟩,?_⟩|refine⟨⟨_,rfl,.inr ⟨rfl,rfl⟩⟩,?_⟩)) (AllP.mem (by repeat first|exact trivial|refine⟨.inl rfl,?_⟩|refine⟨.inr ⟨_,rfl,.inl rfl⟩,?_⟩)) ?_
  refine Run.lJ (T:=fun i=>[(0,.ptr 0 0),(1,.opq 41),(2,.opq 42),(7,.opq 44),(8,.opq 45),(13,.opq 50),(14,.opq 51),(15,.opq 52),(16,ii ((i:Nat):Int))]) (M:=fun i=>((50,.row 1 N.length ((rnY gs gb N inq st i).2.1.map fun b=>.v (.bool b)) 4)::(51,.row 1 (rnY gs gb N inq st i).2.2.length ((rnY gs gb N inq st i).2.2.map fun x=>ii x) 3)::(52,.row 1 (rnY gs gb N inq st i).2.2.length ((rnY gs gb N inq st i).2.2.map fun x=>ii x) 3)::(3,.row 2 N.length ((rnY gs gb N inq st i).1.flatMap Ste.cells) 139)::(44,.row 1 S.length (arr.map fun b=>.v (.bool b)) 4)::(45,.row 1 N.length (inq.map fun x=>ii x) 3)::(0,.cells (zS (ii tk) inp) 108)::(1,.rwin 8 N.length (N.flatMap Prm.vals))::(2,.rwin 4 S.length (S.flatMap Syn.vals))::(4,.rwin 10 rs.length (rs.flatMap Rul.vals))::(5,.rwin 1 pl.length (qB pl))::(6,.row 4 S.length (m.flatMap Mrk.cells) 141)::(7,.row 1 rs.length (zT 25 rs.length) 27)::(8,.row 1 16 [.opq 9,.opq 10,.opq 11,.opq 12,.opq 13,.opq 14,.opq 15,.opq 16,.opq 17,.opq 18,.opq 19,.opq 20,.opq 21,.opq 22,.opq 23,.opq 24] 27)::(41,.rwin 1 inputs.length (qB inputs))::(42,.rwin 1 rw0.length (qB rw0))::goB rs N sn tt plp)) 60 (fun _=>True) N.length (by repeat first|exact trivial|refine⟨⟨rfl,ltb rfl⟩,?_⟩|refine⟨⟨rfl,trivial⟩,?_⟩) (by repeat first|exact trivial|refine⟨⟨rfl,by omega,Os.h _⟩,?_⟩|refine⟨⟨rfl,by omega,qC _ rfl⟩,?_⟩|refine⟨kw rfl rfl,?_⟩|refine⟨⟨rfl,by omega,qO (by omega)⟩,?_⟩|refine⟨⟨rfl,by omega,pnx hcov rfl⟩,?_⟩) (lbx hLB rfl) trivial ?_ ?_
  ·intro u hi _ ih
   refine Run.W2 hc ?_
   conv=>whnf
   rw[decide_eq_true (show((u:Nat):Int)<(N.length:Int)by omega)]
   conv=>whnf
   have hgn:N.getD u prm0=N[u]:=by simp[List.getD_eq_getElem?_getD,hi]
   have e:=rnY_succ gs gb N inq st u
   have hnl:=rnY_len gs gb N inq st u
   unfold rnStep at e
   rw[hgn]at e
   obtain⟨z,hz⟩ :∃z,rnY gs gb N inq st u=z:=⟨_,rfl⟩
   rw[hz]at e hnl ⊢
   obtain⟨zs,zb,zo⟩:=z
   simp only at e hnl
   obtain⟨hl1,hl2,hl3⟩:=hnl
   have hus:u<zs.length:=by omega
   have hui:u<inq.length:=by omega
   have hgs':zs.getD u jS=zs[u]:=by simp[List.getD_eq_getElem?_getD,hus]
   have hgi:inq.getD u 0=inq[u]:=by simp[List.getD_eq_getElem?_getD,hui]
   rw[hgs',hgi]at e
   rw[e]at ih
   obtain⟨b,hb⟩ :∃b,gb N[u] zs[u] inq[u]=b:=⟨_,rfl⟩
   have hgz:((zb.set u b).map fun b=>SV.v (.bool b))[u]? = some (.v (.bool b)):=by
    rw[List.getElem?_map,List.getElem?_set_self (by omega)];rfl
   have hgq:(inq.map fun x=>ii x)[u]? = some (ii inq[u]):=by
    rw[List.getElem?_map,List.getElem?_eq_getElem hui];rfl
   rw[hb]at ih
   refine Run.draw (hc w L0 none nofun) 34 ?_
   rw[show qD 0 34=qD 0 14++(qD 14 1++(qD 15 6++(qD 21 1++(qD 22 3++(qD 25 1++(qD 26 1++(qD 27 4++(qD 31 1++(qD 32 1++qD 33 1)))))))))from rfl]
   simp only[qN]
   conv=>whnf
   refine⟨by omega,?_⟩
   conv=>whnf
   rw[zZ (f:=Prm.vals) (l:=N) u rfl rfl rfl rfl rfl Prm.vlen (by rw[qE]) hi]
   conv=>whnf
   refine⟨by omega,?_⟩
   conv=>whnf
   rw[vD (f:=Ste.cells) (l:=zs) u rfl rfl rfl rfl rfl (fun _=>rfl) (by rw[qE]) hus]
   conv=>whnf
   refine⟨by omega,?_⟩
   conv=>whnf
   rw[q9 u rfl rfl rfl rfl (by rw[qE,Nat.mul_one]) hgq]
   conv=>whnf
   rw[vC (F:=FG) rfl rfl rfl rfl (hGo N[u] zs[u] inq[u] _),hb]
   conv=>whnf
   refine⟨by omega,?_⟩
   conv=>whnf
   rw[vV (e:=2) (f:=Ste.cells) (l:=zs) u (gs N[u] zs[u] inq[u]) rfl rfl rfl rfl rfl (fun _=>rfl) (by rw[qE]) hus (by decide) rfl rfl]
   conv=>whnf
   refine⟨by omega,?_⟩
   conv=>whnf
   rw[zJ (v:=.v (.bool b)) u rfl rfl rfl rfl rfl (by rw[qE,Nat.mul_one]) (by rw[List.length_map];omega) rfl rfl,show((zb.map fun b=>SV.v (.bool b)).set u (.v (.bool b)))=(zb.set u b).map fun b=>SV.v (.bool b)by rw[List.map_set]]
   conv=>whnf
   refine⟨by kernel_rfl,?_⟩
   refine Run.W2 hc ?_
   conv=>whnf
   refine⟨by omega,?_⟩
   conv=>whnf
   rw[q9 (c:=.v (.bool b)) u rfl rfl rfl rfl (by rw[qE,Nat.mul_one]) hgz]
   conv=>whnf
   cases b
   case false=>
    conv=>whnf
    exact Run.tH (ih trivial) (by repeat first|exact trivial|refine⟨⟨rfl,ltb rfl⟩,?_⟩|refine⟨⟨wsx (by omega),trivial⟩,?_⟩) (by repeat first|exact trivial|refine⟨⟨rfl,by omega,Os.h _⟩,?_⟩|refine⟨⟨rfl,by omega,qC _ rfl⟩,?_⟩|refine⟨kw rfl rfl,?_⟩|refine⟨⟨rfl,by omega,qO (by omega)⟩,?_⟩|refine⟨⟨rfl,by omega,pnx hcov rfl⟩,?_⟩) (lbx hLB rfl)
   conv=>whnf
   refine Run.append (hc w L0 none nofun) rfl rfl rfl rfl rfl rfl rfl rfl rfl rfl rfl rfl rfl rfl rfl (by decide) ⟨by omega,by omega⟩ ((50,_)::(52,_)::(3,_)::(44,_)::(45,_)::(0,_)::(1,_)::(2,_)::(4,_)::(5,_)::(6,_)::(7,_)::(8,_)::(41,_)::(42,_)::(9,_)::(10,_)::(11,_)::(12,_)::(13,_)::(14,_)::(15,_)::(16,_)::(17,_)::(18,_)::(19,_)::(20,_)::(21,_)::(22,_)::(23,_)::(24,_)::(25,_)::(26,_)::(27,_)::(28,_)::(29,_)::(30,_)::(31,_)::(32,_)::(33,_)::(34,_)::(35,_)::(36,_)::(37,_)::(38,_)::(39,_)::(40,_)::(43,_)::[]) (AllP.mem (by repeat first|exact trivial|refine⟨⟨rfl,(neb rfl)⟩,?_⟩)) ?_
   refine Run.W2 hc ?_
   conv=>whnf
   refine Run.append (hc w L0 none nofun) rfl rfl rfl rfl rfl rfl rfl rfl rfl rfl rfl rfl rfl rfl rfl (by decide) ⟨by omega,by omega⟩ ((95,_)::(50,_)::(3,_)::(44,_)::(45,_)::(0,_)::(1,_)::(2,_)::(4,_)::(5,_)::(6,_)::(7,_)::(8,_)::(41,_)::(42,_)::(9,_)::(10,_)::(11,_)::(12,_)::(13,_)::(14,_)::(15,_)::(16,_)::(17,_)::(18,_)::(19,_)::(20,_)::(21,_)::(22,_)::(23,_)::(24,_)::(25,_)::(26,_)::(27,_)::(28,_)::(29,_)::(30,_)::(31,_)::(32,_)::(33,_)::(34,_)::(35,_)::(36,_)::(37,_)::(38,_)::(39,_)::(40,_)::(43,_)::[]) (AllP.mem (by repeat first|exact trivial|refine⟨⟨rfl,(neb rfl)⟩,?_⟩)) ?_
   refine Run.W2 hc ?_
   conv=>whnf
   refine Run.oB (ih trivial) (rq [(51,95),(95,51),(52,97),(97,52)]) ?_ ?_ ?_ ?_
   ·intro i hi j hj hne he
    have inv :∀i,i<60→rq [(51,95),(95,51),(52,97),(97,52)] (rq [(51,95),(95,51),(52,97),(97,52)] i)=i:=by decide
    exact hne (by rw[←inv i hi,he,inv j hj])
   ·exact(by repeat first|exact trivial|refine⟨⟨rfl,ltb rfl⟩,?_⟩|refine⟨⟨wsx (by omega),trivial⟩,?_⟩)
   ·exact(by repeat first|exact trivial|refine⟨⟨rfl,by omega,qC _ rfl⟩,?_⟩|refine⟨kw rfl rfl,?_⟩|refine⟨⟨congrArg some (ofx (o:=.row _ _ (List.map _ _) _) (x8 _ _)).symm,by omega,Os.h _⟩,?_⟩|refine⟨⟨congrArg some (show _=SObj.ren _ (.row 1 (zo++[(u:Int)]).length ((zo++[(u:Int)]).map fun x=>ii x) 3)by rw[ofx (o:=.row 1 (zo++[(u:Int)]).length ((zo++[(u:Int)]).map fun x=>ii x) 3) (qK _ _),List.map_append,List.length_append];rfl),by omega,Os.h _⟩,?_⟩|refine⟨⟨congrArg some (ofx (o:=.row _ _ (List.flatMap Ste.cells _) _) (qQ _ _)).symm,by omega,Os.h _⟩,?_⟩|refine⟨⟨congrArg some (ofx (o:=.row _ _ (List.map _ _) _) (qK _ _)).symm,by omega,Os.h _⟩,?_⟩|refine⟨⟨congrArg some (ofx (o:=.row _ _ (List.flatMap Mrk.cells _) _) (qF _ _)).symm,by omega,Os.h _⟩,?_⟩|refine⟨⟨congrArg some (z5 (b:=25) (b':=25) (fun j hj=>zC (qZ (B:=43) rfl (show 25+j<43 by omega)))).symm,by omega,qO (by omega)⟩,?_⟩|refine⟨⟨congrArg some (yG hcov (fun i hi=>zC (qZ (B:=43) rfl hi))).symm,by omega,pnx hcov rfl⟩,?_⟩)
   ·intro p hp
    have:=hLB p hp;exact⟨zC (qZ (B:=43) rfl this),by omega⟩
  ·intro _
   refine Run.W2 hc ?_
   conv=>whnf
   rw[decide_eq_false (show ¬((N.length:Nat):Int)<(N.length:Int)by omega)]
   conv=>whnf
   have hZl:=rnY_len gs gb N inq st N.length
   rw[hZ']at hZl ⊢
   simp only at hZl
   obtain⟨hl1,hl2,hl3⟩:=hZl
   refine Run.lJ (T:=fun i=>[(0,.ptr 0 0),(1,.opq 41),(2,.opq 42),(7,.opq 44),(8,.opq 45),(13,.opq 50),(14,.opq 51),(15,.opq 52),(17,ii ((i:Nat):Int))]) (M:=fun i=>((50,.row 1 N.length (zb.map fun b=>.v (.bool b)) 4)::(51,.row 1 zo.length (zo.map fun x=>ii x) 3)::(52,.row 1 (sL inputs zo i).length ((sL inputs zo i).map fun x=>ii x) 3)::(3,.row 2 N.length (zs.flatMap Ste.cells) 139)::(44,.row 1 S.length (arr.map fun b=>.v (.bool b)) 4)::(45,.row 1 N.length (inq.map fun x=>ii x) 3)::(0,.cells (zS (ii tk) inp) 108)::(1,.rwin 8 N.length (N.flatMap Prm.vals))::(2,.rwin 4 S.length (S.flatMap Syn.vals))::(4,.rwin 10 rs.length (rs.flatMap Rul.vals))::(5,.rwin 1 pl.length (qB pl))::(6,.row 4 S.length (m.flatMap Mrk.cells) 141)::(7,.row 1 rs.length (zT 25 rs.length) 27)::(8,.row 1 16 [.opq 9,.opq 10,.opq 11,.opq 12,.opq 13,.opq 14,.opq 15,.opq 16,.opq 17,.opq 18,.opq 19,.opq 20,.opq 21,.opq 22,.opq 23,.opq 24] 27)::(41,.rwin 1 inputs.length (qB inputs))::(42,.rwin 1 rw0.length (qB rw0))::goB rs N sn tt plp)) 60 (fun _=>True) inputs.length (by repeat first|exact trivial|refine⟨⟨rfl,ltb rfl⟩,?_⟩|refine⟨⟨rfl,trivial⟩,?_⟩) (by repeat first|exact trivial|refine⟨⟨rfl,by omega,Os.h _⟩,?_⟩|refine⟨⟨rfl,by omega,qC _ rfl⟩,?_⟩|refine⟨kw rfl rfl,?_⟩|refine⟨⟨rfl,by omega,qO (by omega)⟩,?_⟩|refine⟨⟨rfl,by omega,pnx hcov rfl⟩,?_⟩|refine⟨⟨by rw[show sL inputs zo 0=zo by simp[sL]];rfl,by omega,Os.h _⟩,?_⟩) (lbx hLB rfl) trivial ?_ ?_
   ·intro u hi _ ih
    have hsu:=sL_succ (zo:=zo) hi
    have hsl:=sL_len inputs zo u
    refine Run.W2 hc ?_
    conv=>whnf
    rw[decide_eq_true (show((u:Nat):Int)<(inputs.length:Int)by omega)]
    conv=>whnf
    refine⟨by omega,?_⟩
    conv=>whnf
    rw[qY u rfl rfl rfl rfl (by rw[qE,Nat.mul_one]) (zA hi)]
    conv=>whnf
    rw[hsu]at ih
    generalize sL inputs zo u=sl at hsl ih ⊢
    refine Run.append (hc w L0 none nofun) rfl rfl rfl rfl rfl rfl rfl rfl rfl rfl rfl rfl rfl rfl rfl (by decide) ⟨by omega,by omega⟩ ((50,_)::(51,_)::(3,_)::(44,_)::(45,_)::(0,_)::(1,_)::(2,_)::(4,_)::(5,_)::(6,_)::(7,_)::(8,_)::(41,_)::(42,_)::(9,_)::(10,_)::(11,_)::(12,_)::(13,_)::(14,_)::(15,_)::(16,_)::(17,_)::(18,_)::(19,_)::(20,_)::(21,_)::(22,_)::(23,_)::(24,_)::(25,_)::(26,_)::(27,_)::(28,_)::(29,_)::(30,_)::(31,_)::(32,_)::(33,_)::(34,_)::(35,_)::(36,_)::(37,_)::(38,_)::(39,_)::(40,_)::(43,_)::[]) (AllP.mem (by repeat first|exact trivial|refine⟨⟨rfl,(neb rfl)⟩,?_⟩)) ?_
    refine Run.W2 hc ?_
    conv=>whnf
    refine Run.oB (ih trivial) (rq [(52,61),(61,52)]) ?_ ?_ ?_ ?_
    ·intro i hi j hj hne he
     have inv :∀i,i<60→rq [(52,61),(61,52)] (rq [(52,61),(61,52)] i)=i:=by decide
     exact hne (by rw[←inv i hi,he,inv j hj])
    ·exact(by repeat first|exact trivial|refine⟨⟨rfl,ltb rfl⟩,?_⟩|refine⟨⟨wsx (by omega),trivial⟩,?_⟩)
    ·exact(by repeat first|exact trivial|refine⟨⟨rfl,by omega,qC _ rfl⟩,?_⟩|refine⟨kw rfl rfl,?_⟩|refine⟨⟨congrArg some (ofx (o:=.row _ _ (List.map _ _) _) (x8 _ _)).symm,by omega,Os.h _⟩,?_⟩|refine⟨⟨congrArg some (ofx (o:=.row _ _ (List.map _ _) _) (qK _ _)).symm,by omega,Os.h _⟩,?_⟩|refine⟨⟨congrArg some (show _=SObj.ren _ (.row 1 (sl++[W (-1-inputs[u])]).length ((sl++[W (-1-inputs[u])]).map fun x=>ii x) 3)by rw[ofx (o:=.row 1 (sl++[W (-1-inputs[u])]).length ((sl++[W (-1-inputs[u])]).map fun x=>ii x) 3) (qK _ _),List.map_append,List.length_append];rfl),by omega,Os.h _⟩,?_⟩|refine⟨⟨congrArg some (ofx (o:=.row _ _ (List.flatMap Ste.cells _) _) (qQ _ _)).symm,by omega,Os.h _⟩,?_⟩|refine⟨⟨congrArg some (ofx (o:=.row _ _ (List.flatMap Mrk.cells _) _) (qF _ _)).symm,by omega,Os.h _⟩,?_⟩|refine⟨⟨congrArg some (z5 (b:=25) (b':=25) (fun j hj=>zC (qZ (B:=43) rfl (show 25+j<43 by omega)))).symm,by omega,qO (by omega)⟩,?_⟩|refine⟨⟨congrArg some (yG hcov (fun i hi=>zC (qZ (B:=43) rfl hi))).symm,by omega,pnx hcov rfl⟩,?_⟩)
    ·intro p hp
     have:=hLB p hp;exact⟨zC (qZ (B:=43) rfl this),by omega⟩
   ·intro _
    refine Run.W2 hc ?_
    conv=>whnf
    rw[decide_eq_false (show ¬((inputs.length:Nat):Int)<(inputs.length:Int)by omega)]
    conv=>whnf
    have hsl:=sL_len inputs zo inputs.length
    obtain⟨sl,hsle⟩ :∃sl,sL inputs zo inputs.length=sl:=⟨_,rfl⟩
    rw[hsle]at hsl ⊢
    refine Run.sliceRow (hc w L0 none nofun) rfl rfl rfl rfl rfl rfl (l:=15) rfl (by decide) rfl rfl (by decide) (by decide) ((60,.cells [.opq 52] 27)::(50,.row 1 N.length (zb.map fun b=>.v (.bool b)) 4)::(51,.row 1 zo.length (zo.map fun x=>ii x) 3)::(52,.row 1 sl.length (sl.map fun x=>ii x) 3)::(3,.row 2 N.length (zs.flatMap Ste.cells) 139)::(44,.row 1 S.length (arr.map fun b=>.v (.bool b)) 4)::(45,.row 1 N.length (inq.map fun x=>ii x) 3)::(0,.cells (zS (ii tk) inp) 108)::(1,.rwin 8 N.length (N.flatMap Prm.vals))::(2,.rwin 4 S.length (S.flatMap Syn.vals))::(4,.rwin 10 rs.length (rs.flatMap Rul.vals))::(5,.rwin 1 pl.length (qB pl))::(6,.row 4 S.length (m.flatMap Mrk.cells) 141)::(7,.row 1 rs.length (zT 25 rs.length) 27)::(41,.rwin 1 inputs.length (qB inputs))::(42,.rwin 1 rw0.length (qB rw0))::goB rs N sn tt plp) (AllP.mem (by repeat first|exact trivial|refine⟨⟨rfl,(neb rfl)⟩,?_⟩)) ?_
    refine Run.W2 hc ?_
    conv=>whnf
    refine Run.pJ (T':=[(0,.ptr 0 0),(1,.opq 41),(2,.opq 42),(7,.opq 44),(8,.opq 45),(13,.opq 50),(14,.opq 51),(15,.opq 52),(177,.ptr 0 0),(179,.opq 62),(184,.opq 61)]) (M':=((61,.row 1 15 [.opq 9,.opq 10,.opq 11,.opq 12,.opq 13,.opq 14,.opq 15,.opq 16,.opq 17,.opq 18,.opq 19,.opq 20,.opq 21,.opq 22,.opq 23] 27)::(50,.row 1 N.length (zb.map fun b=>.v (.bool b)) 4)::(51,.row 1 zo.length (zo.map fun x=>ii x) 3)::(52,.row 1 sl.length (sl.map fun x=>ii x) 3)::(3,.row 2 N.length (zs.flatMap Ste.cells) 139)::(44,.row 1 S.length (arr.map fun b=>.v (.bool b)) 4)::(45,.row 1 N.length (inq.map fun x=>ii x) 3)::(0,.cells (zS (ii tk) inp) 108)::(1,.rwin 8 N.length (N.flatMap Prm.vals))::(2,.rwin 4 S.length (S.flatMap Syn.vals))::(4,.rwin 10 rs.length (rs.flatMap Rul.vals))::(5,.rwin 1 pl.length (qB pl))::(6,.row 4 S.length (m.flatMap Mrk.cells) 141)::(7,.row 1 rs.length (zT 25 rs.length) 27)::(41,.rwin 1 inputs.length (qB inputs))::(42,.rwin 1 rw0.length (qB rw0))::goB rs N sn tt plp)) 60 1 1 [.opq 52] 27 rfl rfl (by omega) (AllP.mem (by repeat first|exact trivial|refine⟨.inl rfl,?_⟩|refine⟨.inr ⟨rfl,rfl⟩,?_⟩)) (AllP.mem (by repeat first|exact trivial|refine⟨⟨rfl,(neb rfl)⟩,?_⟩)) ?_
    refine Run.appendO (hc w L0 none nofun) rfl rfl rfl rfl rfl rfl rfl rfl (by decide) rfl rfl rfl rfl rfl (by decide) ⟨by decide,by decide⟩ ((61,.row 1 15 [.opq 9,.opq 10,.opq 11,.opq 12,.opq 13,.opq 14,.opq 15,.opq 16,.opq 17,.opq 18,.opq 19,.opq 20,.opq 21,.opq 22,.opq 23] 27)::(50,.row 1 N.length (zb.map fun b=>.v (.bool b)) 4)::(51,.row 1 zo.length (zo.map fun x=>ii x) 3)::(52,.row 1 sl.length (sl.map fun x=>ii x) 3)::(3,.row 2 N.length (zs.flatMap Ste.cells) 139)::(44,.row 1 S.length (arr.map fun b=>.v (.bool b)) 4)::(45,.row 1 N.length (inq.map fun x=>ii x) 3)::(0,.cells (zS (ii tk) inp) 108)::(1,.rwin 8 N.length (N.flatMap Prm.vals))::(2,.rwin 4 S.length (S.flatMap Syn.vals))::(4,.rwin 10 rs.length (rs.flatMap Rul.vals))::(5,.rwin 1 pl.length (qB pl))::(6,.row 4 S.length (m.flatMap Mrk.cells) 141)::(7,.row 1 rs.length (zT 25 rs.length) 27)::(41,.rwin 1 inputs.length (qB inputs))::(42,.rwin 1 rw0.length (qB rw0))::goB rs N sn tt plp) (AllP.mem (by repeat first|exact trivial|refine⟨⟨rfl,(neb rfl)⟩,?_⟩)) ?_
    refine Run.W2 hc ?_
    conv=>whnf
    refine Run.lJ (T:=fun i=>[(0,.ptr 0 0),(2,.opq 42),(7,.opq 44),(13,.opq 50),(14,.opq 51),(18,ii ((i:Nat):Int))]) (M:=fun i=>((63,.row 1 16 [.opq 52,.opq 9,.opq 10,.opq 11,.opq 12,.opq 13,.opq 14,.opq 15,.opq 16,.opq 17,.opq 18,.opq 19,.opq 20,.opq 21,.opq 22,.opq 23] 27)::(52,.row 1 sl.length (sl.map fun x=>ii x) 3)::(51,.row 1 zo.length (zo.map fun x=>ii x) 3)::(50,.row 1 N.length (zb.map fun b=>.v (.bool b)) 4)::(44,.row 1 S.length (arr.map fun b=>.v (.bool b)) 4)::(3,.row 2 N.length (zs.flatMap Ste.cells) 139)::(6,.row 4 S.length ((rpY S rs pl arr zb rw0 m i).flatMap Mrk.cells) 141)::(0,.cells (xY (ii tk) inp 63) 108)::(1,.rwin 8 N.length (N.flatMap Prm.vals))::(2,.rwin 4 S.length (S.flatMap Syn.vals))::(4,.rwin 10 rs.length (rs.flatMap Rul.vals))::(5,.rwin 1 pl.length (qB pl))::(7,.row 1 rs.length (zT 25 rs.length) 27)::(42,.rwin 1 rw0.length (qB rw0))::goB rs N sn tt plp)) 70 (fun _=>True) S.length ⟨⟨rfl,ltb rfl⟩,⟨rfl,ltb rfl⟩,⟨rfl,ltb rfl⟩,⟨rfl,ltb rfl⟩,⟨rfl,ltb rfl⟩,⟨rfl,trivial⟩,trivial⟩ (by repeat first|exact trivial|refine⟨⟨rfl,by omega,qC _ rfl⟩,?_⟩|refine⟨⟨rfl,by omega,Os.h _⟩,?_⟩|refine⟨kw rfl rfl,?_⟩|refine⟨⟨rfl,by omega,qO (by omega)⟩,?_⟩|refine⟨⟨rfl,by omega,pnx hcov rfl⟩,?_⟩) (lbx hLB rfl) trivial ?_ ?_
    ·intro u hi _ ih
     have hup:u<pl.length:=by omega
     have hpd:pl.getD u (-1)=pl[u]:=by simp[List.getD_eq_getElem?_getD,hup]
     have hsd:S.getD u qX=S[u]:=by simp[List.getD_eq_getElem?_getD,hi]
     have hua:u<arr.length:=by omega
     have had:arr.getD u false=arr[u]:=by simp[List.getD_eq_getElem?_getD,hua]
     have e:=rpY_succ S rs pl arr zb rw0 m u
     have hml:=wY S rs pl arr zb rw0 m u
     have hpu:=hp0 u hup
     have hy0:=ht0 u hi
     have hy1:=ht1 u hi
     unfold rpStep at e
     rw[hpd,hsd,had]at e
     obtain⟨ms,hms⟩ :∃ms,rpY S rs pl arr zb rw0 m u=ms:=⟨_,rfl⟩
     rw[hms]at e hml ⊢
     obtain⟨y,hy⟩ :∃y,S[u]=y:=⟨_,rfl⟩
     rw[hy]at hy0 hy1 e
     obtain⟨q,hq⟩ :∃q,pl[u]=q:=⟨_,rfl⟩
     rw[hq]at hpu e
     have hga:(arr.map fun b=>SV.v (.bool b))[u]? = some (.v (.bool arr[u])):=by
      rw[List.getElem?_map,List.getElem?_eq_getElem hua];rfl
     obtain⟨ar,har⟩ :∃ar,arr[u]=ar:=⟨_,rfl⟩
     rw[har]at hga e
     refine Run.W2 hc ?_
     conv=>whnf
     rw[decide_eq_true (show((u:Nat):Int)<(S.length:Int)by omega)]
     conv=>whnf
     refine⟨by omega,?_⟩
     conv=>whnf
     rw[qY u rfl rfl rfl rfl (by rw[qE,Nat.mul_one]) (zA hup),hq]
     conv=>whnf
     cases hq0:decide (q<0)
     case true=>
      conv=>whnf
      rw[if_pos (of_decide_eq_true hq0)]at e
      rw[e]at ih
      exact Run.tH (ih trivial) ⟨⟨rfl,ltb rfl⟩,⟨rfl,ltb rfl⟩,⟨rfl,ltb rfl⟩,⟨rfl,ltb rfl⟩,⟨rfl,ltb rfl⟩,⟨wsx (by omega),trivial⟩,trivial⟩ (by repeat first|exact trivial|refine⟨⟨rfl,by omega,qC _ rfl⟩,?_⟩|refine⟨⟨rfl,by omega,Os.h _⟩,?_⟩|refine⟨kw rfl rfl,?_⟩|refine⟨⟨rfl,by omega,qO (by omega)⟩,?_⟩|refine⟨⟨rfl,by omega,pnx hcov rfl⟩,?_⟩) (lbx hLB rfl)
     rw[if_neg (of_decide_eq_false hq0)]at e
     obtain⟨k,rfl⟩:=Int.eq_ofNat_of_zero_le (show 0≤q by have:=of_decide_eq_false hq0;omega)
     have hkR:k<rs.length:=by omega
     obtain⟨p,hp'⟩:=Int.eq_ofNat_of_zero_le hy0
     have hpN:p<N.length:=by omega
     have hum:u<ms.length:=by omega
     have hrd:rs.getD k q8=rs[k]:=by simp[List.getD_eq_getElem?_getD,hkR]
     have hwk:k<rw0.length:=by omega
     have hwd:rw0.getD k 0=rw0[k]:=by simp[List.getD_eq_getElem?_getD,hwk]
     have hmd:ms.getD u qM=ms[u]:=by simp[List.getD_eq_getElem?_getD,hum]
     have hzd:zb.getD p false=zb[p]'(by omega):=by simp[List.getD_eq_getElem?_getD,show p<zb.length by omega]
     rw[hp',show((k:Nat):Int).toNat=k from Int.toNat_natCast k,show((p:Nat):Int).toNat=p from Int.toNat_natCast p,hrd,hwd,hmd,hzd]at e
     have hshk:=hsh k hkR
     obtain⟨r,hr⟩ :∃r,rs[k]=r:=⟨_,rfl⟩
     obtain⟨mk,hmk⟩ :∃mk,ms[u]=mk:=⟨_,rfl⟩
     have hgz:(zb.map fun b=>SV.v (.bool b))[p]? = some (.v (.bool (zb[p]'(by omega)))):=by
      rw[List.getElem?_map,List.getElem?_eq_getElem (by omega)];rfl
     obtain⟨sp,hsp⟩ :∃sp,zb[p]'(by omega)=sp:=⟨_,rfl⟩
     rw[hr]at hshk e
     rw[hmk,hsp]at e
     rw[hsp]at hgz
     unfold rpMark at e
     have hCh :∀M,FC M [.agg (yO r mk).cells,.agg (r.vals.map .v),.v (.bool sp),.v (.bool ar),ii rw0[k]]=some ([],(rchg r (yO r mk) sp ar rw0[k]).sv):=fun M=>by rw[←hFC];exact FCh_at sp ar rw0[k] M hshk
     obtain⟨m2,hm2⟩ :∃m2,rchg r (yO r mk) sp ar rw0[k]=m2:=⟨_,rfl⟩
     rw[hm2]at hCh e
     simp only at e
     rw[e]at ih
     conv=>whnf
     refine Run.draw (hc w L0 none nofun) 24 ?_
     rw[show qD 0 24=qD 0 10++(qD 10 1++(qD 11 1++(qD 12 1++(qD 13 6++(qD 19 1++qD 20 4)))))from rfl]
     simp only[qN]
     conv=>whnf
     refine⟨by omega,?_⟩
     conv=>whnf
     rw[qY u rfl rfl rfl rfl (by rw[qE,Nat.mul_one]) (zA hup),hq]
     conv=>whnf
     refine⟨by omega,?_⟩
     conv=>whnf
     rw[zZ (f:=Rul.vals) (l:=rs) k rfl rfl rfl rfl rfl Rul.vlen (by rw[qE]) hkR,hr]
     conv=>whnf
     refine⟨by omega,?_⟩
     conv=>whnf
     rw[vD (f:=Mrk.cells) (l:=ms) u rfl rfl rfl rfl rfl Mrk.clen (by rw[qE]) hum,hmk]
     conv=>whnf
     refine⟨by kernel_rfl,?_⟩
     refine Run.W2 hc ?_
     conv=>whnf
     refine Run.draw (hc w L0 none nofun) 24 ?_
     rw[show qD 0 24=qD 0 6++(qD 6 6++(qD 12 6++qD 18 6))from rfl]
     simp only[qN]
     conv=>whnf
     refine⟨by decide,?_⟩
     conv=>whnf
     refine⟨by decide,?_⟩
     conv=>whnf
     rw[vC (F:=FT) rfl rfl rfl rfl (hTw _ _)]
     conv=>whnf
     refine⟨by kernel_rfl,?_⟩
     refine Run.W2 hc ?_
     conv=>whnf
     refine⟨by omega,?_⟩
     conv=>whnf
     rw[qP (f:=Syn.vals) (l:=S) u 1 rfl rfl rfl rfl Syn.vlen (by rw[qE]) hi (by decide) rfl,hy,hp']
     conv=>whnf
     refine⟨by omega,?_⟩
     conv=>whnf
     rw[q9 p rfl rfl rfl rfl (by rw[qE,Nat.mul_one]) hgz]
     conv=>whnf
     refine Run.r9 (T':=[(0,.ptr 0 0),(2,.opq 42),(7,.opq 44),(13,.opq 50),(14,.opq 51),(18,ii ((u:Nat):Int)),(19,.ptr 90 0),(20,.ptr 91 0),(21,.v (.bool sp))]) (M':=((90,.cells (r.vals.map .v) 40)::(91,.cells (yO r mk).cells 141)::(63,.row 1 16 [.opq 52,.opq 9,.opq 10,.opq 11,.opq 12,.opq 13,.opq 14,.opq 15,.opq 16,.opq 17,.opq 18,.opq 19,.opq 20,.opq 21,.opq 22,.opq 23] 27)::(52,.row 1 sl.length (sl.map fun x=>ii x) 3)::(51,.row 1 zo.length (zo.map fun x=>ii x) 3)::(50,.row 1 N.length (zb.map fun b=>.v (.bool b)) 4)::(44,.row 1 S.length (arr.map fun b=>.v (.bool b)) 4)::(3,.row 2 N.length (zs.flatMap Ste.cells) 139)::(6,.row 4 S.length (ms.flatMap Mrk.cells) 141)::(0,.cells (xY (ii tk) inp 63) 108)::(1,.rwin 8 N.length (N.flatMap Prm.vals))::(2,.rwin 4 S.length (S.flatMap Syn.vals))::(4,.rwin 10 rs.length (rs.flatMap Rul.vals))::(5,.rwin 1 pl.length (qB pl))::(7,.row 1 rs.length (zT 25 rs.length) 27)::(42,.rwin 1 rw0.length (qB rw0))::goB rs N sn tt plp)) 100 (by repeat first|exact trivial|refine⟨⟨rfl,ltb rfl⟩,?_⟩|refine⟨⟨rfl,trivial⟩,?_⟩) (by repeat first|exact trivial|refine⟨⟨rfl,by omega,Os.h _⟩,?_⟩|refine⟨⟨rfl,by omega,⟨trivial,trivial,trivial,trivial,trivial⟩⟩,?_⟩|refine⟨⟨rfl,by omega,qC _ rfl⟩,?_⟩|refine⟨kw rfl rfl,?_⟩|refine⟨⟨rfl,by omega,qO (by omega)⟩,?_⟩|refine⟨⟨rfl,by omega,pnx hcov rfl⟩,?_⟩) (lbx hLB rfl) ?_
     refine Run.draw (hc w L0 none nofun) 19 ?_
     rw[show qD 0 19=qD 0 6++(qD 6 1++(qD 7 7++(qD 14 1++(qD 15 1++(qD 16 1++(qD 17 1++qD 18 1))))))from rfl]
     simp only[qN]
     conv=>whnf
     refine⟨by omega,?_⟩
     conv=>whnf
     rw[q9 (c:=.v (.bool ar)) u rfl rfl rfl rfl (by rw[qE,Nat.mul_one]) hga]
     conv=>whnf
     refine⟨by omega,?_⟩
     conv=>whnf
     rw[qY u rfl rfl rfl rfl (by rw[qE,Nat.mul_one]) (zA hup),hq]
     conv=>whnf
     refine⟨by omega,?_⟩
     conv=>whnf
     rw[qY k rfl rfl rfl rfl (by rw[qE,Nat.mul_one]) (zA hwk)]
     conv=>whnf
     rw[vC (F:=FC) rfl rfl rfl rfl (hCh _)]
     conv=>whnf
     refine⟨by kernel_rfl,?_⟩
     refine Run.W2 hc ?_
     conv=>whnf
     refine⟨by omega,?_⟩
     conv=>whnf
     rw[q9 (c:=.v (.bool ar)) u rfl rfl rfl rfl (by rw[qE,Nat.mul_one]) hga]
     conv=>whnf
     cases ar
     ·conv=>whnf
      cases sp
      ·conv=>whnf
       refine Run.draw (hc w L0 none nofun) 8 ?_
       conv=>whnf
       refine⟨by omega,?_⟩
       conv=>whnf
       rw[vV (e:=4) (f:=Mrk.cells) (l:=ms) u ⟨m2.w,m2.x,m2.y,m2.e⟩ rfl rfl rfl rfl rfl Mrk.clen (by rw[qE]) hum (by decide) rfl rfl]
       conv=>whnf
       refine⟨by kernel_rfl,?_⟩
       refine Run.W2 hc ?_
       conv=>whnf
       exact Run.tH (ih trivial) ⟨⟨rfl,ltb rfl⟩,⟨rfl,ltb rfl⟩,⟨rfl,ltb rfl⟩,⟨rfl,ltb rfl⟩,⟨rfl,ltb rfl⟩,⟨wsx (by omega),trivial⟩,trivial⟩ (by repeat first|exact trivial|refine⟨⟨rfl,by omega,qC _ rfl⟩,?_⟩|refine⟨⟨rfl,by omega,Os.h _⟩,?_⟩|refine⟨kw rfl rfl,?_⟩|refine⟨⟨rfl,by omega,qO (by omega)⟩,?_⟩|refine⟨⟨rfl,by omega,pnx hcov rfl⟩,?_⟩) (lbx hLB rfl)
      ·conv=>whnf
       refine Run.draw (hc w L0 none nofun) 8 ?_
       conv=>whnf
       refine⟨by omega,?_⟩
       conv=>whnf
       rw[vV (e:=4) (f:=Mrk.cells) (l:=ms) u ⟨m2.w,m2.x,min 65535 (W (m2.y+r.gain)),m2.e⟩ rfl rfl rfl rfl rfl Mrk.clen (by rw[qE]) hum (by decide) rfl rfl]
       conv=>whnf
       refine⟨by kernel_rfl,?_⟩
       refine Run.W2 hc ?_
       conv=>whnf
       exact Run.tH (ih trivial) ⟨⟨rfl,ltb rfl⟩,⟨rfl,ltb rfl⟩,⟨rfl,ltb rfl⟩,⟨rfl,ltb rfl⟩,⟨rfl,ltb rfl⟩,⟨wsx (by omega),trivial⟩,trivial⟩ (by repeat first|exact trivial|refine⟨⟨rfl,by omega,qC _ rfl⟩,?_⟩|refine⟨⟨rfl,by omega,Os.h _⟩,?_⟩|refine⟨kw rfl rfl,?_⟩|refine⟨⟨rfl,by omega,qO (by omega)⟩,?_⟩|refine⟨⟨rfl,by omega,pnx hcov rfl⟩,?_⟩) (lbx hLB rfl)
     ·conv=>whnf
      cases sp
      ·conv=>whnf
       refine Run.draw (hc w L0 none nofun) 8 ?_
       conv=>whnf
       refine⟨by omega,?_⟩
       conv=>whnf
       rw[vV (e:=4) (f:=Mrk.cells) (l:=ms) u ⟨m2.w,min 65535 (W (m2.x+r.gain)),m2.y,m2.e⟩ rfl rfl rfl rfl rfl Mrk.clen (by rw[qE]) hum (by decide) rfl rfl]
       conv=>whnf
       refine⟨by kernel_rfl,?_⟩
       refine Run.W2 hc ?_
       conv=>whnf
       exact Run.tH (ih trivial) ⟨⟨rfl,ltb rfl⟩,⟨rfl,ltb rfl⟩,⟨rfl,ltb rfl⟩,⟨rfl,ltb rfl⟩,⟨rfl,ltb rfl⟩,⟨wsx (by omega),trivial⟩,trivial⟩ (by repeat first|exact trivial|refine⟨⟨rfl,by omega,qC _ rfl⟩,?_⟩|refine⟨⟨rfl,by omega,Os.h _⟩,?_⟩|refine⟨kw rfl rfl,?_⟩|refine⟨⟨rfl,by omega,qO (by omega)⟩,?_⟩|refine⟨⟨rfl,by omega,pnx hcov rfl⟩,?_⟩) (lbx hLB rfl)
      ·conv=>whnf
       refine Run.draw (hc w L0 none nofun) 8 ?_
       conv=>whnf
       refine⟨by omega,?_⟩
       conv=>whnf
       rw[vV (e:=4) (f:=Mrk.cells) (l:=ms) u ⟨m2.w,min 65535 (W (m2.x+r.gain)),min 65535 (W (m2.y+r.gain)),m2.e⟩ rfl rfl rfl rfl rfl Mrk.clen (by rw[qE]) hum (by decide) rfl rfl]
       conv=>whnf
       refine⟨by kernel_rfl,?_⟩
       refine Run.W2 hc ?_
       conv=>whnf
       exact Run.tH (ih trivial) ⟨⟨rfl,ltb rfl⟩,⟨rfl,ltb rfl⟩,⟨rfl,ltb rfl⟩,⟨rfl,ltb rfl⟩,⟨rfl,ltb rfl⟩,⟨wsx (by omega),trivial⟩,trivial⟩ (by repeat first|exact trivial|refine⟨⟨rfl,by omega,qC _ rfl⟩,?_⟩|refine⟨⟨rfl,by omega,Os.h _⟩,?_⟩|refine⟨kw rfl rfl,?_⟩|refine⟨⟨rfl,by omega,qO (by omega)⟩,?_⟩|refine⟨⟨rfl,by omega,pnx hcov rfl⟩,?_⟩) (lbx hLB rfl)
    ·intro _
     refine Run.W2 hc ?_
     conv=>whnf
     rw[hP',decide_eq_false (show ¬((S.length:Nat):Int)<(S.length:Int)by omega)]
     conv=>whnf
     have hsm:=rsums_spec tk inp N S rs pl mP hN hS hR hp hmPl hp0 ht0 ht1
     rw[hmPl]at hsm
     refine Run.pM (vs:=[.ptr 0 0]) (caps:=[]) (caps2:=[]) hsm (ent _ _ Try.func72 (by kernel_rfl) rfl) rfl rfl rfl rfl rfl rfl [.ptr 0 0] rfl (fun q=>if q=8 then 63 else q) rfl (fun q hq=>by have inv :∀q,q<41→(fun q=>if q=8 then 63 else q) q<70:=(by decide);exact inv q hq) (fun q hq j hj hne=>by have inj :∀i,i<41 → ∀j,j<41→i≠j→(fun q=>if q=8 then 63 else q) i≠(fun q=>if q=8 then 63 else q) j:=(by decide);exact inj q hq j hj hne) (by decide) (by repeat first|exact trivial|refine⟨⟨by omega,trivial,⟨_,rfl,Conv.refl _⟩,.inl rfl,fun _=>by simp⟩,?_⟩|refine⟨⟨by omega,trivial,⟨_,rfl,Conv.row (by decide) (xU _)⟩,.inl rfl,fun _=>by simp⟩,?_⟩|refine⟨⟨by omega,by simp[zS,SObj.sc,SV.scs,SV.sc],⟨_,rfl,Conv.refl _⟩,.inr (by simp),fun h=>by cases h⟩,?_⟩) (fun q hq=>by simp at hq;subst hq;exact⟨by omega,_,rfl⟩) (.opq 70) ((70,.row 1 rs.length (zT 71 rs.length) 27)::(71,.row 1 (cN rs.length N.length 0) ((rsL S pl mP rs.length N.length 0).map fun x=>ii x) 3)::(72,.row 1 (cN rs.length N.length 1) ((rsL S pl mP rs.length N.length 1).map fun x=>ii x) 3)::(73,.row 1 (cN rs.length N.length 2) ((rsL S pl mP rs.length N.length 2).map fun x=>ii x) 3)::(74,.row 1 (cN rs.length N.length 3) ((rsL S pl mP rs.length N.length 3).map fun x=>ii x) 3)::(75,.row 1 (cN rs.length N.length 4) ((rsL S pl mP rs.length N.length 4).map fun x=>ii x) 3)::(76,.row 1 (cN rs.length N.length 5) ((rsL S pl mP rs.length N.length 5).map fun x=>ii x) 3)::(77,.row 1 (cN rs.length N.length 6) ((rsL S pl mP rs.length N.length 6).map fun x=>ii x) 3)::(78,.row 1 (cN rs.length N.length 7) ((rsL S pl mP rs.length N.length 7).map fun x=>ii x) 3)::(79,.row 1 (cN rs.length N.length 8) ((rsL S pl mP rs.length N.length 8).map fun x=>ii x) 3)::(80,.row 1 (cN rs.length N.length 9) ((rsL S pl mP rs.length N.length 9).map fun x=>ii x) 3)::(81,.row 1 (cN rs.length N.length 10) ((rsL S pl mP rs.length N.length 10).map fun x=>ii x) 3)::(82,.row 1 (cN rs.length N.length 11) ((rsL S pl mP rs.length N.length 11).map fun x=>ii x) 3)::(83,.row 1 (cN rs.length N.length 12) ((rsL S pl mP rs.length N.length 12).map fun x=>ii x) 3)::(84,.row 1 (cN rs.length N.length 13) ((rsL S pl mP rs.length N.length 13).map fun x=>ii x) 3)::(85,.row 1 (cN rs.length N.length 14) ((rsL S pl mP rs.length N.length 14).map fun x=>ii x) 3)::(86,.row 1 (cN rs.length N.length 15) ((rsL S pl mP rs.length N.length 15).map fun x=>ii x) 3)::(0,.cells (xY (ii tk) inp 63) 108)::(63,.row 1 16 [.opq 52,.opq 9,.opq 10,.opq 11,.opq 12,.opq 13,.opq 14,.opq 15,.opq 16,.opq 17,.opq 18,.opq 19,.opq 20,.opq 21,.opq 22,.opq 23] 27)::(52,.row 1 sl.length (sl.map fun x=>ii x) 3)::(51,.row 1 zo.length (zo.map fun x=>ii x) 3)::(3,.row 2 N.length (zs.flatMap Ste.cells) 139)::(6,.row 4 S.length (mP.flatMap Mrk.cells) 141)::(1,.rwin 8 N.length (N.flatMap Prm.vals))::(2,.rwin 4 S.length (S.flatMap Syn.vals))::(4,.rwin 10 rs.length (rs.flatMap Rul.vals))::(5,.rwin 1 pl.length (qB pl))::(7,.row 1 rs.length (zT 25 rs.length) 27)::(42,.rwin 1 rw0.length (qB rw0))::goB rs N sn tt plp) 87 rfl rfl
      ⟨.inr ⟨41,_,rfl,rfl,(z5 (b:=42) (b':=71) (fun j hj=>by have inv :∀j,j<16→shR (fun q=>if q=8 then 63 else q) 41 70 (42+j)=71+j:=(by decide);exact inv j (by omega))).symm,rfl⟩,.inr ⟨42,_,rfl,rfl,(ofx (o:=.row _ _ (List.map _ _) _) (qK _ _)).symm,rfl⟩,.inr ⟨43,_,rfl,rfl,(ofx (o:=.row _ _ (List.map _ _) _) (qK _ _)).symm,rfl⟩,.inr ⟨44,_,rfl,rfl,(ofx (o:=.row _ _ (List.map _ _) _) (qK _ _)).symm,rfl⟩,.inr ⟨45,_,rfl,rfl,(ofx (o:=.row _ _ (List.map _ _) _) (qK _ _)).symm,rfl⟩,.inr ⟨46,_,rfl,rfl,(ofx (o:=.row _ _ (List.map _ _) _) (qK _ _)).symm,rfl⟩,.inr ⟨47,_,rfl,rfl,(ofx (o:=.row _ _ (List.map _ _) _) (qK _ _)).symm,rfl⟩,.inr ⟨48,_,rfl,rfl,(ofx (o:=.row _ _ (List.map _ _) _) (qK _ _)).symm,rfl⟩,.inr ⟨49,_,rfl,rfl,(ofx (o:=.row _ _ (List.map _ _) _) (qK _ _)).symm,rfl⟩,.inr ⟨50,_,rfl,rfl,(ofx (o:=.row _ _ (List.map _ _) _) (qK _ _)).symm,rfl⟩,.inr ⟨51,_,rfl,rfl,(ofx (o:=.row _ _ (List.map _ _) _) (qK _ _)).symm,rfl⟩,.inr ⟨52,_,rfl,rfl,(ofx (o:=.row _ _ (List.map _ _) _) (qK _ _)).symm,rfl⟩,.inr ⟨53,_,rfl,rfl,(ofx (o:=.row _ _ (List.map _ _) _) (qK _ _)).symm,rfl⟩,.inr ⟨54,_,rfl,rfl,(ofx (o:=.row _ _ (List.map _ _) _) (qK _ _)).symm,rfl⟩,.inr ⟨55,_,rfl,rfl,(ofx (o:=.row _ _ (List.map _ _) _) (qK _ _)).symm,rfl⟩,.inr ⟨56,_,rfl,rfl,(ofx (o:=.row _ _ (List.map _ _) _) (qK _ _)).symm,rfl⟩,.inr ⟨57,_,rfl,rfl,(ofx (o:=.row _ _ (List.map _ _) _) (qK _ _)).symm,rfl⟩,.inr ⟨0,_,rfl,rfl,rfl,rfl⟩,.inl ⟨rfl,fun q hq=>by simp at hq;subst hq;exact(show 0≠63 by decide)⟩,.inl ⟨rfl,fun q hq=>by simp at hq;subst hq;exact(show 0≠52 by decide)⟩,.inl ⟨rfl,fun q hq=>by simp at hq;subst hq;exact(show 0≠51 by decide)⟩,.inl ⟨rfl,fun q hq=>by simp at hq;subst hq;exact(show 0≠3 by decide)⟩,.inl ⟨rfl,fun q hq=>by simp at hq;subst hq;exact(show 0≠6 by decide)⟩,.inl ⟨rfl,fun q hq=>by simp at hq;subst hq;exact(show 0≠1 by decide)⟩,.inl ⟨rfl,fun q hq=>by simp at hq;subst hq;exact(show 0≠2 by decide)⟩,.inl ⟨rfl,fun q hq=>by simp at hq;subst hq;exact(show 0≠4 by decide)⟩,.inl ⟨rfl,fun q hq=>by simp at hq;subst hq;exact(show 0≠5 by decide)⟩,.inl ⟨rfl,fun q hq=>by simp at hq;subst hq;exact(show 0≠7 by decide)⟩,.inl ⟨rfl,fun q hq=>by simp at hq;subst hq;exact(show 0≠42 by decide)⟩,.inl ⟨rfl,fun q hq=>by simp at hq;subst hq;exact(show 0≠9 by decide)⟩,.inl ⟨rfl,fun q hq=>by simp at hq;subst hq;exact(show 0≠10 by decide)⟩,.inl ⟨rfl,fun q hq=>by simp at hq;subst hq;exact(show 0≠11 by decide)⟩,.inl ⟨rfl,fun q hq=>by simp at hq;subst hq;exact(show 0≠12 by decide)⟩,.inl ⟨rfl,fun q hq=>by simp at hq;subst hq;exact(show 0≠13 by decide)⟩,.inl ⟨rfl,fun q hq=>by simp at hq;subst hq;exact(show 0≠14 by decide)⟩,.inl ⟨rfl,fun q hq=>by simp at hq;subst hq;exact(show 0≠15 by decide)⟩,.inl ⟨rfl,fun q hq=>by simp at hq;subst hq;exact(show 0≠16 by decide)⟩,.inl ⟨rfl,fun q hq=>by simp at hq;subst hq;exact(show 0≠17 by decide)⟩,.inl ⟨rfl,fun q hq=>by simp at hq;subst hq;exact(show 0≠18 by decide)⟩,.inl ⟨rfl,fun q hq=>by simp at hq;subst hq;exact(show 0≠19 by decide)⟩,.inl ⟨rfl,fun q hq=>by simp at hq;subst hq;exact(show 0≠20 by decide)⟩,.inl ⟨rfl,fun q hq=>by simp at hq;subst hq;exact(show 0≠21 by decide)⟩,.inl ⟨rfl,fun q hq=>by simp at hq;subst hq;exact(show 0≠22 by decide)⟩,.inl ⟨rfl,fun q hq=>by simp at hq;subst hq;exact(show 0≠23 by decide)⟩,.inl ⟨rfl,fun q hq=>by simp at hq;subst hq;exact(show 0≠24 by decide)⟩,.inl ⟨rfl,fun q hq=>by simp at hq;subst hq;exact(show 0≠25 by decide)⟩,.inl ⟨rfl,fun q hq=>by simp at hq;subst hq;exact(show 0≠26 by decide)⟩,.inl ⟨rfl,fun q hq=>by simp at hq;subst hq;exact(show 0≠27 by decide)⟩,.inl ⟨rfl,fun q hq=>by simp at hq;subst hq;exact(show 0≠28 by decide)⟩,.inl ⟨rfl,fun q hq=>by simp at hq;subst hq;exact(show 0≠29 by decide)⟩,.inl ⟨rfl,fun q hq=>by simp at hq;subst hq;exact(show 0≠30 by decide)⟩,.inl ⟨rfl,fun q hq=>by simp at hq;subst hq;exact(show 0≠31 by decide)⟩,.inl ⟨rfl,fun q hq=>by simp at hq;subst hq;exact(show 0≠32 by decide)⟩,.inl ⟨rfl,fun q hq=>by simp at hq;subst hq;exact(show 0≠33 by decide)⟩,.inl ⟨rfl,fun q hq=>by simp at hq;subst hq;exact(show 0≠34 by decide)⟩,.inl ⟨rfl,fun q hq=>by simp at hq;subst hq;exact(show 0≠35 by decide)⟩,.inl ⟨rfl,fun q hq=>by simp at hq;subst hq;exact(show 0≠36 by decide)⟩,.inl ⟨rfl,fun q hq=>by simp at hq;subst hq;exact(show 0≠37 by decide)⟩,.inl ⟨rfl,fun q hq=>by simp at hq;subst hq;exact(show 0≠38 by decide)⟩,.inl ⟨rfl,fun q hq=>by simp at hq;subst hq;exact(show 0≠39 by decide)⟩,.inl ⟨rfl,fun q hq=>by simp at hq;subst hq;exact(show 0≠40 by decide)⟩,.inl ⟨rfl,fun q hq=>by simp at hq;subst hq;exact(show 0≠43 by decide)⟩,trivial⟩ ?_
     refine Run.W2 hc ?_
     conv=>whnf
     have hFl:=u7 S pl mP rs.length N.length pl.length
     obtain⟨Fs,hFs⟩ :∃Fs,rsL S pl mP rs.length N.length=Fs:=⟨_,rfl⟩
     have hFl2 :∀k,(Fs k).length=cN rs.length N.length k:=fun k=>by rw[←hFs];exact hFl k
     rw[hFs]at hK hRR ⊢
     refine Run.lJ (T:=fun i=>[(0,.ptr 0 0),(14,.opq 51),(22,.opq 70),(23,ii ((i:Nat):Int))]) (M:=fun i=>((70,.row 1 rs.length (zT 71 rs.length) 27)::(71,.row 1 (cN rs.length N.length 0) ((Fs 0).map fun x=>ii x) 3)::(72,.row 1 (cN rs.length N.length 1) ((Fs 1).map fun x=>ii x) 3)::(73,.row 1 (cN rs.length N.length 2) ((Fs 2).map fun x=>ii x) 3)::(74,.row 1 (cN rs.length N.length 3) ((Fs 3).map fun x=>ii x) 3)::(75,.row 1 (cN rs.length N.length 4) ((Fs 4).map fun x=>ii x) 3)::(76,.row 1 (cN rs.length N.length 5) ((Fs 5).map fun x=>ii x) 3)::(77,.row 1 (cN rs.length N.length 6) ((Fs 6).map fun x=>ii x) 3)::(78,.row 1 (cN rs.length N.length 7) ((Fs 7).map fun x=>ii x) 3)::(79,.row 1 (cN rs.length N.length 8) ((Fs 8).map fun x=>ii x) 3)::(80,.row 1 (cN rs.length N.length 9) ((Fs 9).map fun x=>ii x) 3)::(81,.row 1 (cN rs.length N.length 10) ((Fs 10).map fun x=>ii x) 3)::(82,.row 1 (cN rs.length N.length 11) ((Fs 11).map fun x=>ii x) 3)::(83,.row 1 (cN rs.length N.length 12) ((Fs 12).map fun x=>ii x) 3)::(84,.row 1 (cN rs.length N.length 13) ((Fs 13).map fun x=>ii x) 3)::(85,.row 1 (cN rs.length N.length 14) ((Fs 14).map fun x=>ii x) 3)::(86,.row 1 (cN rs.length N.length 15) ((Fs 15).map fun x=>ii x) 3)::(6,.row 4 S.length ((rgY S rs pl tt Fs N.length Kf mP i).flatMap Mrk.cells) 141)::(0,.cells (xY (ii tk) inp 63) 108)::(63,.row 1 16 [.opq 52,.opq 9,.opq 10,.opq 11,.opq 12,.opq 13,.opq 14,.opq 15,.opq 16,.opq 17,.opq 18,.opq 19,.opq 20,.opq 21,.opq 22,.opq 23] 27)::(52,.row 1 sl.length (sl.map fun x=>ii x) 3)::(51,.row 1 zo.length (zo.map fun x=>ii x) 3)::(3,.row 2 N.length (zs.flatMap Ste.cells) 139)::(1,.rwin 8 N.length (N.flatMap Prm.vals))::(2,.rwin 4 S.length (S.flatMap Syn.vals))::(4,.rwin 10 rs.length (rs.flatMap Rul.vals))::(5,.rwin 1 pl.length (qB pl))::(7,.row 1 rs.length (zT 25 rs.length) 27)::goB rs N sn tt plp)) 100 (fun _=>True) rs.length ⟨⟨rfl,ltb rfl⟩,⟨rfl,ltb rfl⟩,⟨rfl,ltb rfl⟩,⟨rfl,trivial⟩,trivial⟩ (by repeat first|exact trivial|refine⟨⟨rfl,by omega,qO (by omega)⟩,?_⟩|refine⟨⟨rfl,by omega,Os.h _⟩,?_⟩|refine⟨⟨rfl,by omega,qC _ rfl⟩,?_⟩|refine⟨kw rfl rfl,?_⟩|refine⟨⟨rfl,by omega,pnx hcov rfl⟩,?_⟩) (lbx hLB rfl) trivial ?_ ?_
     ·intro r hr _ ih
      have hrd:rs.getD r q8=rs[r]:=by simp[List.getD_eq_getElem?_getD,hr]
      have hKr:=hK r hr
      have e:rgY S rs pl tt Fs N.length Kf mP (r+1)=if (rs.getD r q8).sum=true then rgP S rs pl tt Fs Kf r (rgY S rs pl tt Fs N.length Kf mP r) N.length else rgY S rs pl tt Fs N.length Kf mP r:=rfl
      have hyl:=rgY_len S rs pl tt Fs N.length Kf mP r
      rw[e]at ih
      generalize rgY S rs pl tt Fs N.length Kf mP r=my at hKr ih hyl ⊢
      obtain⟨sm,hsmm⟩ :∃sm,rs[r].sum=sm:=⟨_,rfl⟩
      rw[hrd,hsmm]at ih
      rw[hrd,hsmm]at hKr
      have hls :∀p:Nat,p<N.length→r<rs.length:=fun _ _=>hr
      refine Run.W2 hc ?_
      conv=>whnf
      rw[decide_eq_true (show((r:Nat):Int)<(rs.length:Int)by omega)]
      conv=>whnf
      cases sm
      case false=>
       rw[if_neg (by decide)]at ih
       refine Run.r9 (T':=[(0,.ptr 0 0),(14,.opq 51),(22,.opq 70),(23,ii ((r:Nat):Int)),(24,ii (((0:Nat):Nat):Int))]) (M':=((70,.row 1 rs.length (zT 71 rs.length) 27)::(71,.row 1 (cN rs.length N.length 0) ((Fs 0).map fun x=>ii x) 3)::(72,.row 1 (cN rs.length N.length 1) ((Fs 1).map fun x=>ii x) 3)::(73,.row 1 (cN rs.length N.length 2) ((Fs 2).map fun x=>ii x) 3)::(74,.row 1 (cN rs.length N.length 3) ((Fs 3).map fun x=>ii x) 3)::(75,.row 1 (cN rs.length N.length 4) ((Fs 4).map fun x=>ii x) 3)::(76,.row 1 (cN rs.length N.length 5) ((Fs 5).map fun x=>ii x) 3)::(77,.row 1 (cN rs.length N.length 6) ((Fs 6).map fun x=>ii x) 3)::(78,.row 1 (cN rs.length N.length 7) ((Fs 7).map fun x=>ii x) 3)::(79,.row 1 (cN rs.length N.length 8) ((Fs 8).map fun x=>ii x) 3)::(80,.row 1 (cN rs.length N.length 9) ((Fs 9).map fun x=>ii x) 3)::(81,.row 1 (cN rs.length N.length 10) ((Fs 10).map fun x=>ii x) 3)::(82,.row 1 (cN rs.length N.length 11) ((Fs 11).map fun x=>ii x) 3)::(83,.row 1 (cN rs.length N.length 12) ((Fs 12).map fun x=>ii x) 3)::(84,.row 1 (cN rs.length N.length 13) ((Fs 13).map fun x=>ii x) 3)::(85,.row 1 (cN rs.length N.length 14) ((Fs 14).map fun x=>ii x) 3)::(86,.row 1 (cN rs.length N.length 15) ((Fs 15).map fun x=>ii x) 3)::(6,.row 4 S.length (my.flatMap Mrk.cells) 141)::(0,.cells (xY (ii tk) inp 63) 108)::(63,.row 1 16 [.opq 52,.opq 9,.opq 10,.opq 11,.opq 12,.opq 13,.opq 14,.opq 15,.opq 16,.opq 17,.opq 18,.opq 19,.opq 20,.opq 21,.opq 22,.opq 23] 27)::(52,.row 1 sl.length (sl.map fun x=>ii x) 3)::(51,.row 1 zo.length (zo.map fun x=>ii x) 3)::(3,.row 2 N.length (zs.flatMap Ste.cells) 139)::(1,.rwin 8 N.length (N.flatMap Prm.vals))::(2,.rwin 4 S.length (S.flatMap Syn.vals))::(4,.rwin 10 rs.length (rs.flatMap Rul.vals))::(5,.rwin 1 pl.length (qB pl))::(7,.row 1 rs.length (zT 25 rs.length) 27)::goB rs N sn tt plp)) 100 ⟨⟨rfl,ltb rfl⟩,⟨rfl,ltb rfl⟩,⟨rfl,ltb rfl⟩,⟨rfl,trivial⟩,⟨rfl,trivial⟩,trivial⟩ (by repeat first|exact trivial|refine⟨⟨rfl,by omega,qO (by omega)⟩,?_⟩|refine⟨⟨rfl,by omega,Os.h _⟩,?_⟩|refine⟨⟨rfl,by omega,qC _ rfl⟩,?_⟩|refine⟨kw rfl rfl,?_⟩|refine⟨⟨rfl,by omega,pnx hcov rfl⟩,?_⟩) (lbx hLB rfl) ?_
       refine Run.W2 hc ?_
       conv=>whnf
       rw[decide_eq_true (show((0:Nat):Int)<(N.length:Int)by omega)]
       conv=>whnf
       refine⟨by omega,?_⟩
       conv=>whnf
       rw[qP (f:=Rul.vals) (l:=rs) r 9 rfl rfl rfl rfl Rul.vlen (by rw[qE]) hr (by decide) rfl,hsmm]
       conv=>whnf
       exact Run.tH (ih trivial) ⟨⟨rfl,ltb rfl⟩,⟨rfl,ltb rfl⟩,⟨rfl,ltb rfl⟩,⟨wsx (by omega),trivial⟩,trivial⟩ (by repeat first|exact trivial|refine⟨⟨rfl,by omega,qO (by omega)⟩,?_⟩|refine⟨⟨rfl,by omega,Os.h _⟩,?_⟩|refine⟨⟨rfl,by omega,qC _ rfl⟩,?_⟩|refine⟨kw rfl rfl,?_⟩|refine⟨⟨rfl,by omega,pnx hcov rfl⟩,?_⟩) (lbx hLB rfl)
      rw[if_pos rfl]at ih
      refine Run.lJ (T:=fun p=>[(0,.ptr 0 0),(14,.opq 51),(22,.opq 70),(23,ii ((r:Nat):Int)),(24,ii ((p:Nat):Int))]) (M:=fun p=>((70,.row 1 rs.length (zT 71 rs.length) 27)::(71,.row 1 (cN rs.length N.length 0) ((Fs 0).map fun x=>ii x) 3)::(72,.row 1 (cN rs.length N.length 1) ((Fs 1).map fun x=>ii x) 3)::(73,.row 1 (cN rs.length N.length 2) ((Fs 2).map fun x=>ii x) 3)::(74,.row 1 (cN rs.length N.length 3) ((Fs 3).map fun x=>ii x) 3)::(75,.row 1 (cN rs.length N.length 4) ((Fs 4).map fun x=>ii x) 3)::(76,.row 1 (cN rs.length N.length 5) ((Fs 5).map fun x=>ii x) 3)::(77,.row 1 (cN rs.length N.length 6) ((Fs 6).map fun x=>ii x) 3)::(78,.row 1 (cN rs.length N.length 7) ((Fs 7).map fun x=>ii x) 3)::(79,.row 1 (cN rs.length N.length 8) ((Fs 8).map fun x=>ii x) 3)::(80,.row 1 (cN rs.length N.length 9) ((Fs 9).map fun x=>ii x) 3)::(81,.row 1 (cN rs.length N.length 10) ((Fs 10).map fun x=>ii x) 3)::(82,.row 1 (cN rs.length N.length 11) ((Fs 11).map fun x=>ii x) 3)::(83,.row 1 (cN rs.length N.length 12) ((Fs 12).map fun x=>ii x) 3)::(84,.row 1 (cN rs.length N.length 13) ((Fs 13).map fun x=>ii x) 3)::(85,.row 1 (cN rs.length N.length 14) ((Fs 14).map fun x=>ii x) 3)::(86,.row 1 (cN rs.length N.length 15) ((Fs 15).map fun x=>ii x) 3)::(6,.row 4 S.length ((rgP S rs pl tt Fs Kf r my p).flatMap Mrk.cells) 141)::(0,.cells (xY (ii tk) inp 63) 108)::(63,.row 1 16 [.opq 52,.opq 9,.opq 10,.opq 11,.opq 12,.opq 13,.opq 14,.opq 15,.opq 16,.opq 17,.opq 18,.opq 19,.opq 20,.opq 21,.opq 22,.opq 23] 27)::(52,.row 1 sl.length (sl.map fun x=>ii x) 3)::(51,.row 1 zo.length (zo.map fun x=>ii x) 3)::(3,.row 2 N.length (zs.flatMap Ste.cells) 139)::(1,.rwin 8 N.length (N.flatMap Prm.vals))::(2,.rwin 4 S.length (S.flatMap Syn.vals))::(4,.rwin 10 rs.length (rs.flatMap Rul.vals))::(5,.rwin 1 pl.length (qB pl))::(7,.row 1 rs.length (zT 25 rs.length) 27)::goB rs N sn tt plp)) 100 (fun _=>True) N.length ⟨⟨rfl,ltb rfl⟩,⟨rfl,ltb rfl⟩,⟨rfl,ltb rfl⟩,⟨rfl,trivial⟩,⟨rfl,trivial⟩,trivial⟩ (by repeat first|exact trivial|refine⟨⟨rfl,by omega,qO (by omega)⟩,?_⟩|refine⟨⟨rfl,by omega,Os.h _⟩,?_⟩|refine⟨⟨rfl,by omega,qC _ rfl⟩,?_⟩|refine⟨kw rfl rfl,?_⟩|refine⟨⟨rfl,by omega,pnx hcov rfl⟩,?_⟩) (lbx hLB rfl) trivial ?_ ?_
      ·intro p hpN _ ih2
       have hKp:=hKr rfl p hpN
       have e2:rgP S rs pl tt Fs Kf r my (p+1)=rrM S rs pl tt Fs r p (Kf r p) (rgP S rs pl tt Fs Kf r my p):=rfl
       have hpl:=rgP_len S rs pl tt Fs Kf r my p
       rw[e2]at ih2
       unfold rrM at ih2
       rw[hrd]at ih2
       generalize rgP S rs pl tt Fs Kf r my p=mq at hKp ih2 hpl ⊢
       obtain⟨hk1,hk2,hk3⟩:=hKp
       have hr16:r<16:=by omega
       have hgF:((Fs r).map fun x=>ii x)[p]? = some (ii ((Fs r).getD p 0)):=by
        have:p<(Fs r).length:=by rw[hFl2];unfold cN;rw[if_pos hr];exact hpN
        rw[List.getElem?_map,List.getElem?_eq_getElem this,List.getD_eq_getElem?_getD,List.getElem?_eq_getElem this];rfl
       have hcn:cN rs.length N.length r=N.length:=by unfold cN;rw[if_pos hr]
       have htk:(zT 71 rs.length)[r]? = some (.opq (71+r)):=tabX_get hr
       have hspec:=rrestore_spec tk inp N.length S rs pl mq tt r p ((Fs r).getD p 0) (Kf r p) hS hR hp (by omega) hr hpN htt (by rw[hrd];exact hk1) (by rw[hrd];exact hk2) hk3
       rw[hrd]at hspec
       obtain⟨mq2,hmq2⟩ :∃mq2,(rrY S pl (r:Int) (p:Int) rs[r].lo rs[r].hi ((tt r).getD p 0) ((Fs r).getD p 0,mq) (Kf r p)).2=mq2:=⟨_,rfl⟩
       rw[hmq2]at hspec ih2
       refine Run.W2 hc ?_
       conv=>whnf
       rw[decide_eq_true (show((p:Nat):Int)<(N.length:Int)by omega)]
       conv=>whnf
       refine⟨by omega,?_⟩
       conv=>whnf
       rw[qP (f:=Rul.vals) (l:=rs) r 9 rfl rfl rfl rfl Rul.vlen (by rw[qE]) hr (by decide) rfl,hsmm]
       conv=>whnf
       refine⟨by omega,?_⟩
       conv=>whnf
       rw[q9 r rfl rfl rfl rfl (by rw[qE,Nat.mul_one]) htk]
       conv=>whnf
       apply joinL (c:=⟨Try.prog,tab,[(87,FG),(89,FC),(88,FT)],56,Try.f56,[],w,L0,none⟩) (R:=RR) [(0,.ptr 0 0),(14,.opq 51),(22,.opq 70),(23,ii ((r:Nat):Int)),(24,ii ((p:Nat):Int)),(332,.ptr 0 0),(333,ii (r:Int)),(334,ii (p:Int)),(341,ii ((Fs r).getD p 0))] ((70,.row 1 rs.length (zT 71 rs.length) 27)::(71,.row 1 (cN rs.length N.length 0) ((Fs 0).map fun x=>ii x) 3)::(72,.row 1 (cN rs.length N.length 1) ((Fs 1).map fun x=>ii x) 3)::(73,.row 1 (cN rs.length N.length 2) ((Fs 2).map fun x=>ii x) 3)::(74,.row 1 (cN rs.length N.length 3) ((Fs 3).map fun x=>ii x) 3)::(75,.row 1 (cN rs.length N.length 4) ((Fs 4).map fun x=>ii x) 3)::(76,.row 1 (cN rs.length N.length 5) ((Fs 5).map fun x=>ii x) 3)::(77,.row 1 (cN rs.length N.length 6) ((Fs 6).map fun x=>ii x) 3)::(78,.row 1 (cN rs.length N.length 7) ((Fs 7).map fun x=>ii x) 3)::(79,.row 1 (cN rs.length N.length 8) ((Fs 8).map fun x=>ii x) 3)::(80,.row 1 (cN rs.length N.length 9) ((Fs 9).map fun x=>ii x) 3)::(81,.row 1 (cN rs.length N.length 10) ((Fs 10).map fun x=>ii x) 3)::(82,.row 1 (cN rs.length N.length 11) ((Fs 11).map fun x=>ii x) 3)::(83,.row 1 (cN rs.length N.length 12) ((Fs 12).map fun x=>ii x) 3)::(84,.row 1 (cN rs.length N.length 13) ((Fs 13).map fun x=>ii x) 3)::(85,.row 1 (cN rs.length N.length 14) ((Fs 14).map fun x=>ii x) 3)::(86,.row 1 (cN rs.length N.length 15) ((Fs 15).map fun x=>ii x) 3)::(6,.row 4 S.length (mq.flatMap Mrk.cells) 141)::(0,.cells (xY (ii tk) inp 63) 108)::(63,.row 1 16 [.opq 52,.opq 9,.opq 10,.opq 11,.opq 12,.opq 13,.opq 14,.opq 15,.opq 16,.opq 17,.opq 18,.opq 19,.opq 20,.opq 21,.opq 22,.opq 23] 27)::(52,.row 1 sl.length (sl.map fun x=>ii x) 3)::(51,.row 1 zo.length (zo.map fun x=>ii x) 3)::(3,.row 2 N.length (zs.flatMap Ste.cells) 139)::(1,.rwin 8 N.length (N.flatMap Prm.vals))::(2,.rwin 4 S.length (S.flatMap Syn.vals))::(4,.rwin 10 rs.length (rs.flatMap Rul.vals))::(5,.rwin 1 pl.length (qB pl))::(7,.row 1 rs.length (zT 25 rs.length) 27)::goB rs N sn tt plp) 100
       ·intro tail
        rcases lt16 hr16 with rfl|rfl|rfl|rfl|rfl|rfl|rfl|rfl|rfl|rfl|rfl|rfl|rfl|rfl|rfl|rfl
        all_goals
         conv=>whnf
         refine⟨by omega,?_⟩
         conv=>whnf
         rw[q9 p rfl rfl rfl rfl (by rw[qE,Nat.mul_one]) hgF]
         conv=>whnf
         exact Run.tH tail (by repeat first|exact trivial|refine⟨⟨rfl,ltb rfl⟩,?_⟩|refine⟨⟨rfl,trivial⟩,?_⟩) (by repeat first|exact trivial|refine⟨⟨rfl,by omega,qO (by omega)⟩,?_⟩|refine⟨⟨rfl,by omega,Os.h _⟩,?_⟩|refine⟨⟨rfl,by omega,qC _ rfl⟩,?_⟩|refine⟨kw rfl rfl,?_⟩|refine⟨⟨rfl,by omega,pnx hcov rfl⟩,?_⟩) (lbx hLB rfl)
       have hisn :∀k:Nat,(k≠0∧k≠6∧k≠7) → ∀q∈([0,6,7]:List Nat),(fun q=>if q=8 then 63 else q) q≠k:=by
        intro k hk q hq
        have hq2:q=0∨q=6∨q=7:=by simpa using hq
        rcases hq2 with rfl|rfl|rfl
        ·exact hk.1.symm
        ·exact hk.2.1.symm
        ·exact hk.2.2.symm
       refine Run.pM (vs:=[.ptr 0 0,ii (r:Int),ii (p:Int),ii ((Fs r).getD p 0)]) (caps:=[]) (caps2:=[]) hspec (ent _ _ Try.func90 (by kernel_rfl) rfl) rfl rfl rfl rfl rfl rfl [.ptr 0 0,ii (r:Int),ii (p:Int),ii ((Fs r).getD p 0)] rfl (fun q=>if q=8 then 63 else q) rfl (fun q hq=>by have inv :∀q,q<41→(fun q=>if q=8 then 63 else q) q<100:=(by decide);exact inv q hq) (fun q hq j hj hne=>by have inj :∀i,i<41 → ∀j,j<41→i≠j→(fun q=>if q=8 then 63 else q) i≠(fun q=>if q=8 then 63 else q) j:=(by decide);exact inj q hq j hj hne) (by decide) (by repeat first|exact trivial|refine⟨⟨by omega,trivial,⟨_,rfl,Conv.refl _⟩,.inl rfl,fun _=>by simp⟩,?_⟩|refine⟨⟨by omega,qF _ _,⟨_,rfl,by rw[ofx (o:=.row _ _ (List.flatMap Mrk.cells _) _) (qF _ _)];exact Conv.refl _⟩,.inr (by simp),fun h=>by cases h⟩,?_⟩|refine⟨⟨by omega,qO (by omega),⟨_,rfl,by rw[(z5 (r:=(fun q=>if q=8 then 63 else q)) (b:=25) (b':=25) (fun j hj=>by have inv :∀j,j<16→(fun q=>if q=8 then 63 else q) (25+j)=25+j:=(by decide);exact inv j (by omega)))];exact Conv.refl _⟩,.inr (by simp),fun h=>by cases h⟩,?_⟩|refine⟨⟨by omega,by simp[zS,SObj.sc,SV.scs,SV.sc],⟨_,rfl,Conv.refl _⟩,.inr (by simp),fun h=>by cases h⟩,?_⟩) (fun q hq=>by
         have hq2:q=0∨q=6∨q=7:=by simpa using hq
         rcases hq2 with rfl|rfl|rfl<;>exact⟨by omega,_,rfl⟩) (.tup []) ((70,.row 1 rs.length (zT 71 rs.length) 27)::(71,.row 1 (cN rs.length N.length 0) ((Fs 0).map fun x=>ii x) 3)::(72,.row 1 (cN rs.length N.length 1) ((Fs 1).map fun x=>ii x) 3)::(73,.row 1 (cN rs.length N.length 2) ((Fs 2).map fun x=>ii x) 3)::(74,.row 1 (cN rs.length N.length 3) ((Fs 3).map fun x=>ii x) 3)::(75,.row 1 (cN rs.length N.length 4) ((Fs 4).map fun x=>ii x) 3)::(76,.row 1 (cN rs.length N.length 5) ((Fs 5).map fun x=>ii x) 3)::(77,.row 1 (cN rs.length N.length 6) ((Fs 6).map fun x=>ii x) 3)::(78,.row 1 (cN rs.length N.length 7) ((Fs 7).map fun x=>ii x) 3)::(79,.row 1 (cN rs.length N.length 8) ((Fs 8).map fun x=>ii x) 3)::(80,.row 1 (cN rs.length N.length 9) ((Fs 9).map fun x=>ii x) 3)::(81,.row 1 (cN rs.length N.length 10) ((Fs 10).map fun x=>ii x) 3)::(82,.row 1 (cN rs.length N.length 11) ((Fs 11).map fun x=>ii x) 3)::(83,.row 1 (cN rs.length N.length 12) ((Fs 12).map fun x=>ii x) 3)::(84,.row 1 (cN rs.length N.length 13) ((Fs 13).map fun x=>ii x) 3)::(85,.row 1 (cN rs.length N.length 14) ((Fs 14).map fun x=>ii x) 3)::(86,.row 1 (cN rs.length N.length 15) ((Fs 15).map fun x=>ii x) 3)::(6,.row 4 S.length (mq2.flatMap Mrk.cells) 141)::(0,.cells (xY (ii tk) inp 63) 108)::(63,.row 1 16 [.opq 52,.opq 9,.opq 10,.opq 11,.opq 12,.opq 13,.opq 14,.opq 15,.opq 16,.opq 17,.opq 18,.opq 19,.opq 20,.opq 21,.opq 22,.opq 23] 27)::(52,.row 1 sl.length (sl.map fun x=>ii x) 3)::(51,.row 1 zo.length (zo.map fun x=>ii x) 3)::(3,.row 2 N.length (zs.flatMap Ste.cells) 139)::(1,.rwin 8 N.length (N.flatMap Prm.vals))::(2,.rwin 4 S.length (S.flatMap Syn.vals))::(4,.rwin 10 rs.length (rs.flatMap Rul.vals))::(5,.rwin 1 pl.length (qB pl))::(7,.row 1 rs.length (zT 25 rs.length) 27)::goB rs N sn tt plp) 100 rfl rfl
        ⟨.inl ⟨rfl,hisn 70 (by decide)⟩,.inl ⟨rfl,hisn 71 (by decide)⟩,.inl ⟨rfl,hisn 72 (by decide)⟩,.inl ⟨rfl,hisn 73 (by decide)⟩,.inl ⟨rfl,hisn 74 (by decide)⟩,.inl ⟨rfl,hisn 75 (by decide)⟩,.inl ⟨rfl,hisn 76 (by decide)⟩,.inl ⟨rfl,hisn 77 (by decide)⟩,.inl ⟨rfl,hisn 78 (by decide)⟩,.inl ⟨rfl,hisn 79 (by decide)⟩,.inl ⟨rfl,hisn 80 (by decide)⟩,.inl ⟨rfl,hisn 81 (by decide)⟩,.inl ⟨rfl,hisn 82 (by decide)⟩,.inl ⟨rfl,hisn 83 (by decide)⟩,.inl ⟨rfl,hisn 84 (by decide)⟩,.inl ⟨rfl,hisn 85 (by decide)⟩,.inl ⟨rfl,hisn 86 (by decide)⟩,.inr ⟨6,_,rfl,rfl,(ofx (o:=.row _ _ (List.flatMap Mrk.cells _) _) (qF _ _)).symm,rfl⟩,.inr ⟨0,_,rfl,rfl,rfl,rfl⟩,.inl ⟨rfl,hisn 63 (by decide)⟩,.inl ⟨rfl,hisn 52 (by decide)⟩,.inl ⟨rfl,hisn 51 (by decide)⟩,.inl ⟨rfl,hisn 3 (by decide)⟩,.inl ⟨rfl,hisn 1 (by decide)⟩,.inl ⟨rfl,hisn 2 (by decide)⟩,.inl ⟨rfl,hisn 4 (by decide)⟩,.inl ⟨rfl,hisn 5 (by decide)⟩,.inr ⟨7,_,rfl,rfl,(z5 (r:=shR (fun q=>if q=8 then 63 else q) 41 100) (b:=25) (b':=25) (fun j hj=>by have inv :∀j,j<16→shR (fun q=>if q=8 then 63 else q) 41 100 (25+j)=25+j:=(by decide);exact inv j (by omega))).symm,rfl⟩,.inl ⟨rfl,hisn 9 (by decide)⟩,.inl ⟨rfl,hisn 10 (by decide)⟩,.inl ⟨rfl,hisn 11 (by decide)⟩,.inl ⟨rfl,hisn 12 (by decide)⟩,.inl ⟨rfl,hisn 13 (by decide)⟩,.inl ⟨rfl,hisn 14 (by decide)⟩,.inl ⟨rfl,hisn 15 (by decide)⟩,.inl ⟨rfl,hisn 16 (by decide)⟩,.inl ⟨rfl,hisn 17 (by decide)⟩,.inl ⟨rfl,hisn 18 (by decide)⟩,.inl ⟨rfl,hisn 19 (by decide)⟩,.inl ⟨rfl,hisn 20 (by decide)⟩,.inl ⟨rfl,hisn 21 (by decide)⟩,.inl ⟨rfl,hisn 22 (by decide)⟩,.inl ⟨rfl,hisn 23 (by decide)⟩,.inl ⟨rfl,hisn 24 (by decide)⟩,.inl ⟨rfl,hisn 25 (by decide)⟩,.inl ⟨rfl,hisn 26 (by decide)⟩,.inl ⟨rfl,hisn 27 (by decide)⟩,.inl ⟨rfl,hisn 28 (by decide)⟩,.inl ⟨rfl,hisn 29 (by decide)⟩,.inl ⟨rfl,hisn 30 (by decide)⟩,.inl ⟨rfl,hisn 31 (by decide)⟩,.inl ⟨rfl,hisn 32 (by decide)⟩,.inl ⟨rfl,hisn 33 (by decide)⟩,.inl ⟨rfl,hisn 34 (by decide)⟩,.inl ⟨rfl,hisn 35 (by decide)⟩,.inl ⟨rfl,hisn 36 (by decide)⟩,.inl ⟨rfl,hisn 37 (by decide)⟩,.inl ⟨rfl,hisn 38 (by decide)⟩,.inl ⟨rfl,hisn 39 (by decide)⟩,.inl ⟨rfl,hisn 40 (by decide)⟩,.inl ⟨rfl,hisn 43 (by decide)⟩,trivial⟩ ?_
       refine Run.W2 hc ?_
       conv=>whnf
       exact Run.tH (ih2 trivial) ⟨⟨rfl,ltb rfl⟩,⟨rfl,ltb rfl⟩,⟨rfl,ltb rfl⟩,⟨rfl,trivial⟩,⟨wsx (by omega),trivial⟩,trivial⟩ (by repeat first|exact trivial|refine⟨⟨rfl,by omega,qO (by omega)⟩,?_⟩|refine⟨⟨rfl,by omega,Os.h _⟩,?_⟩|refine⟨⟨rfl,by omega,qC _ rfl⟩,?_⟩|refine⟨kw rfl rfl,?_⟩|refine⟨⟨rfl,by omega,pnx hcov rfl⟩,?_⟩) (lbx hLB rfl)
      ·intro _
       refine Run.W2 hc ?_
       conv=>whnf
       rw[decide_eq_false (show ¬((N.length:Nat):Int)<(N.length:Int)by omega)]
       conv=>whnf
       exact Run.tH (ih trivial) ⟨⟨rfl,ltb rfl⟩,⟨rfl,ltb rfl⟩,⟨rfl,ltb rfl⟩,⟨wsx (by omega),trivial⟩,trivial⟩ (by repeat first|exact trivial|refine⟨⟨rfl,by omega,qO (by omega)⟩,?_⟩|refine⟨⟨rfl,by omega,Os.h _⟩,?_⟩|refine⟨⟨rfl,by omega,qC _ rfl⟩,?_⟩|refine⟨kw rfl rfl,?_⟩|refine⟨⟨rfl,by omega,pnx hcov rfl⟩,?_⟩) (lbx hLB rfl)
     ·intro _
      refine Run.W2 hc ?_
      conv=>whnf
      rw[decide_eq_false (show ¬((rs.length:Nat):Int)<(rs.length:Int)by omega)]
      conv=>whnf
      simp only[hsle]at hRR
      rw[←hRR]
      refine SpecR.pR (rq [(43,51),(51,43),(44,52),(52,44),(45,63),(63,45)]) (fun i hi=>zC (qZ (B:=43) rfl hi)) ?_ (Widens.refl _ _) hLB (by decide) hcov rfl rfl (show 43<46 by decide) ⟨⟨congrArg some (ofx (o:=.row _ _ (List.map _ _) _) (qK _ _)).symm,by omega,Os.h _⟩,⟨congrArg some (ofx (o:=.row _ _ (List.map _ _) _) (qK _ _)).symm,by omega,Os.h _⟩,⟨rfl,by omega,qC _ rfl⟩,⟨rfl,by omega,qC _ rfl⟩,⟨congrArg some (ofx (o:=.row _ _ (List.flatMap Ste.cells _) _) (qQ _ _)).symm,by omega,Os.h _⟩,⟨congrArg some (ofx (o:=.row _ _ (List.flatMap Mrk.cells _) _) (qF _ _)).symm,by omega,Os.h _⟩,⟨congrArg some (z5 (r:=rq [(43,51),(51,43),(44,52),(52,44),(45,63),(63,45)]) (b:=25) (b':=25) (fun j hj=>zC (qZ (B:=43) rfl (show 25+j<43 by omega)))).symm,by omega,qO (by omega)⟩,trivial⟩
      intro i hi j hj hne
      have inj :∀i,i<46 → ∀j,j<46→i≠j→rq [(43,51),(51,43),(44,52),(52,44),(45,63),(63,45)] i≠rq [(43,51),(51,43),(44,52),(52,44),(45,63),(63,45)] j:=by decide
      exact inj i hi j hj hne
def SnRel (s:Lst)(sn:Nat→List Int):Prop:= ∀d:Nat,d<16 → ∀a:Int,a∈sn d↔((d:Int)+1≤s.tick∧a∈s.sm (z6 (s.tick-1-d)))
theorem SnRel.start (x:Lnt):SnRel x.new fun _=>[]:=fun d _ a=>by
 constructor
 ·intro h;cases h
 ·intro h;cases h.2
theorem set_same {α : Type} :∀{l:List α} {i:Nat} {a : α},l[i]? = some a→l.set i a=l
 | [],_,_,_=>rfl
 |b::l,0,a,h=>by simp at h;subst h;rfl
 |b::l,i+1,a,h=>by rw[List.set_cons_succ,set_same (by simpa using h)]
theorem raY_eq {sn sm:Nat→List Int}{tick:Int}{S:List Syn}{m:List Mrk}{N:Nat}(h :∀i,i<S.length→raB sn (S.getD i qX)=arrB sm tick (S.getD i qX)) :∀j,j≤S.length→raY sn S m N j=aY sm tick S m N j
 | 0,_=>rfl
 |j+1,hj=>by
  have ih:=raY_eq h (m:=m) (N:=N) j (by omega)
  have hg:=raY_ge sn S m N j j (Nat.le_refl _)
  rw[t9,aY_succ,←ih]
  unfold raStep aStep
  rw[h j (by omega)]
  cases hb:arrB sm tick (S.getD j qX)
  ·rw[if_neg (by simp),if_neg (by simp)]
   have:(raY sn S m N j).1[j]? = some false:=by rw[hg,List.getElem?_replicate,if_pos (by omega)]
   rw[set_same this]
  ·rw[if_pos rfl,if_pos rfl]
theorem SnRel.arr {x:Lnt}{s:Lst}{sn:Nat→List Int}(hx:NetOK x)(hs:SnRel s sn){i:Nat}(hi:i<x.n.S.length):raB sn (x.n.S.getD i qX)=arrB s.sm s.tick (x.n.S.getD i qX):=by
 have hd0:=hx.d0 i hi
 have hd1:=hx.d1 i hi
 have hg:x.n.S.getD i qX=x.n.S[i]:=by simp[List.getD_eq_getElem?_getD,hi]
 rw[hg]
 generalize x.n.S[i]=y at hd0 hd1 ⊢
 have h:=hs (y.d-1).toNat (by omega) y.fr
 rw[show(((y.d-1).toNat:Nat):Int)+1=y.d by omega,show s.tick-1-(((y.d-1).toNat:Nat):Int)=s.tick-y.d by omega]at h
 unfold raB arrB
 rw[←Bool.decide_and,decide_eq_decide]
 exact h
theorem SnRel.ra {x:Lnt}{s:Lst}{sn:Nat→List Int}(hx:NetOK x)(hs:SnRel s sn):raL sn x.n.S s.m x.n.N.length=lA x s:=
 raY_eq (fun _ hi=>hs.arr hx hi) _ (Nat.le_refl _)
theorem mem_addJ {l:List Int}{a c:Int}:c∈addS l a↔c∈l∨c=a:=by
 unfold addS
 split
 ·rename_i h
  constructor
  ·exact .inl
  ·rintro(h1|rfl)
   ·exact h1
   ·exact h
 ·simp
theorem rnY_eq {N:List Prm}{sums:List Int}{st:List Ste}(hst:st.length=N.length)(hv :∀i (h:i<N.length) (h':i<st.length),vld N[i] st[i]=0) :∀j,j≤N.length →
  (rnY yA yM N sums st j).1=(nY N sums st j).1∧(rnY yA yM N sums st j).2.2=(nY N sums st j).2.1∧(∀i,i<N.length→(rnY yA yM N sums st j).2.1.getD i false=decide ((i:Int)∈(nY N sums st j).2.2))∧(∀a,a∈(nY N sums st j).2.1↔a∈(nY N sums st j).2.2)∧(∀a,a∈(nY N sums st j).2.2→0≤a∧a<(j:Int))
 | 0,_=>⟨rfl,rfl,fun i hi=>by simp[rnY,nY,hi],fun a=>Iff.rfl,fun a h=>by cases h⟩
 |j+1,hj=>by
  obtain⟨h1,h2,h3,h4,h5⟩:=rnY_eq hst hv (sums:=sums) j (by omega)
  have hl:=(rnY_len yA yM N sums st j).2.1
  have hge:=nY_ge N sums st j j (Nat.le_refl _)
  have hjs:j<st.length:=by omega
  have hs':(nY N sums st j).1.getD j jS=st[j]:=by rw[List.getD_eq_getElem?_getD,hge];simp[hjs]
  have hp:N.getD j prm0=N[j]:=by rw[List.getD_eq_getElem?_getD];simp[show j<N.length by omega]
  have hvj:=hv j (by omega) hjs
  obtain⟨es,eb⟩:=step_same (sJ hvj).1 (s:=st[j]) (vld_good.1 hvj).2.2.1 (sums.getD j 0)
  rw[←hs',←hp]at es eb
  rw[rnY_succ,wX]
  simp only[rnStep,nStep]
  simp only[h1,h2,←es,←eb]
  refine⟨trivial,?_⟩
  rcases Bool.eq_false_or_eq_true (xJ (N.getD j prm0) ((nY N sums st j).1.getD j jS) (sums.getD j 0))with hb|hb
  rotate_left
  ·simp only[hb,Bool.false_eq_true,if_false]
   refine⟨trivial,fun i hi=> ?_,h4,fun a ha=>by have:=h5 a ha;omega⟩
   by_cases hij:i=j
   ·subst hij
    have hn :¬(i:Int)∈(nY N sums st i).2.2:=fun h=>by have:=h5 _ h;omega
    rw[List.getD_eq_getElem?_getD,List.getElem?_set_self (by omega),decide_eq_false hn];rfl
   ·rw[List.getD_eq_getElem?_getD,List.getElem?_set_ne (fun h=>hij h.symm),←List.getD_eq_getElem?_getD]
    exact h3 i hi
  ·simp only[hb,if_true]
   refine⟨trivial,fun i hi=> ?_,fun a=> ?_,fun a ha=> ?_⟩
   ·by_cases hij:i=j
    ·subst hij
     rw[List.getD_eq_getElem?_getD,List.getElem?_set_self (by omega),decide_eq_true (mem_addJ.2 (.inr rfl))];rfl
    ·rw[List.getD_eq_getElem?_getD,List.getElem?_set_ne (fun h=>hij h.symm),←List.getD_eq_getElem?_getD,h3 i hi,decide_eq_decide,mem_addJ]
     constructor
     ·exact .inl
     ·rintro(h|h)
      ·exact h
      ·exact absurd (Int.ofNat.inj h) hij
   ·rw[mem_addJ,List.mem_append,List.mem_singleton,h4 a]
   ·rcases mem_addJ.1 ha with h|rfl
    ·have:=h5 a h;omega
    ·omega
theorem mem_sendJ :∀{inp:List Int} {sp:List Int} {c:Int},c∈xW sp inp↔c∈sp∨c∈inp.map fun k=>W (-1-k)
 | [],sp,c=>by simp[xW]
 |k::inp,sp,c=>by
  show c∈xW (addS sp (W (-1-k))) inp↔_
  rw[mem_sendJ,mem_addJ,List.map_cons,List.mem_cons]
  constructor
  ·rintro((h|h)|h)
   ·exact .inl h
   ·exact .inr (.inl h)
   ·exact .inr (.inr h)
  ·rintro(h|h|h)
   ·exact .inl (.inl h)
   ·exact .inl (.inr h)
   ·exact .inr h
theorem slot_ne {t:Int}{d:Nat}(h0:(d:Int)+1≤t)(h1:d+1<16):z6 (t-1-(d:Int))≠z6 t:=by
 have e1:=gN (t:=t) (by omega)
 have e2:=gN (t:=t-1-(d:Int)) (by omega)
 rw[Int.tmod_eq_emod_of_nonneg (by omega)]at e1 e2
 omega
def snN (sn:Nat→List Int)(inputs zo:List Int):Nat→List Int
 | 0=>sL inputs zo inputs.length
 |d+1=>sn d
theorem SnRel.next {x:Lnt}{s:Lst}{sn:Nat→List Int}(hs:SnRel s sn)(h0:0≤s.tick)(h1:s.tick<4611686018427387904)(inputs rw0 zo:List Int)(hz :∀a,a∈zo↔a∈(lB x s).2.2):SnRel (lN x s inputs rw0) (snN sn inputs zo):=by
 have hw:(lN x s inputs rw0).tick=s.tick+1:=zL (by omega) (by omega)
 intro d hd a
 rw[hw]
 cases d with
 |zero=>
  rw[show s.tick+1-1-((0:Nat):Int)=s.tick by omega]
  show a∈zo++(inputs.take inputs.length).map (fun k=>W (-1-k))↔_∧a∈(if z6 s.tick=z6 s.tick then xW (lB x s).2.2 inputs else s.sm (z6 s.tick))
  rw[if_pos rfl,List.take_length,List.mem_append,mem_sendJ,hz]
  constructor
  ·exact fun h=>⟨by omega,h⟩
  ·exact fun h=>h.2
 |succ d=>
  rw[show s.tick+1-1-((d+1:Nat):Int)=s.tick-1-(d:Int)by omega]
  show a∈sn d↔_∧a∈(if z6 (s.tick-1-(d:Int))=z6 s.tick then xW (lB x s).2.2 inputs else s.sm (z6 (s.tick-1-(d:Int))))
  rw[hs d (by omega) a]
  constructor
  ·rintro⟨h2,h3⟩
   rw[if_neg (slot_ne h2 hd)]
   exact⟨by omega,h3⟩
  ·rintro⟨h2,h3⟩
   have h4:(d:Int)+1≤s.tick:=by omega
   rw[if_neg (slot_ne h4 hd)]at h3
   exact⟨h4,h3⟩
theorem shr_w {a s:Int}(ha:0≤a)(hb:a≤16711425)(hs:0≤s∧s≤16):W ((W a).tdiv (pwr s))=(W a).fdiv (2 ^ min s.toNat 64):=by
 rw[zL (a:=a) (by omega) (by omega),←shr_div ha hs]
 have hp:=pw2_eq s.toNat (by omega)
 have hp0:(0:Int)<2 ^ s.toNat:=by exact_mod_cast Nat.pow_pos (by decide)
 have h1:a.fdiv (2 ^ min s.toNat 64)=a / 2 ^ s.toNat:=by rw[show min s.toNat 64=s.toNat by omega,Int.fdiv_eq_ediv_of_nonneg a (by omega)]
 rw[h1]
 have h2:=Int.ediv_nonneg (b:=(2:Int) ^ s.toNat) ha (by omega)
 have h3:=Int.ediv_le_self ((2:Int) ^ s.toNat) ha
 exact zL (by omega) (by omega)
theorem rchC_eq {r:Rul}(hr:GoodR r){m:Mrk}(hx:0≤m.x∧m.x≤65535)(hy:0≤m.y∧m.y≤65535)(sp ar:Bool):rchC r m sp ar=chgM r m sp ar:=by
 have hu0:0≤r.up*m.x:=Int.mul_nonneg hr.up.1 hx.1
 have hu1:r.up*m.x≤255*65535:=Int.mul_le_mul hr.up.2 hx.2 hx.1 (by decide)
 have hd0:0≤r.down*m.y:=Int.mul_nonneg hr.down.1 hy.1
 have hd1:r.down*m.y≤255*65535:=Int.mul_le_mul hr.down.2 hy.2 hy.1 (by decide)
 unfold rchC chgM
 rw[shr_w hu0 (by omega) hr.shift,shr_w hd0 (by omega) hr.shift]
theorem fade_ok {r:Rul}(hr:GoodR r){m:Mrk}(hm:MrkOK r m):(0≤(yO r m).x∧(yO r m).x≤65535)∧(0≤(yO r m).y∧(yO r m).y≤65535):=by
 have tr :∀a k:Int,0≤a→a≤65535→0≤k→k≤255→0≤W ((W (a*k)).tdiv 256)∧W ((W (a*k)).tdiv 256)≤65535:=by
  intro a k h1 h2 h3 h4
  have h5:a*k≤65535*255:=Int.mul_le_mul h2 h4 h3 (by decide)
  have h6:0≤a*k:=Int.mul_nonneg h1 h3
  have e1:W (a*k)=a*k:=zL (by omega) (by omega)
  rw[e1]
  have h7:(a*k).tdiv 256=a*k / 256:=Int.tdiv_eq_ediv_of_nonneg h6
  rw[h7,zL (by omega) (by omega)]
  omega
 exact⟨tr m.x r.keep hm.x0 hm.x1 hr.keep.1 hr.keep.2,tr m.y r.keep hm.y0 hm.y1 hr.keep.1 hr.keep.2⟩
theorem rpMark_eq {r:Rul}(hr:GoodR r){m:Mrk}(hm:MrkOK r m)(sp ar:Bool)(q:Int):rpMark r sp ar q m=pMark r sp ar q m:=by
 obtain⟨hx,hy⟩:=fade_ok hr hm
 have hc:=rchC_eq hr hx hy sp ar
 rw[pMark_eq rfl rfl rfl]
 unfold rpMark rchg finM pairM rewM
 rw[hc]
 generalize chgM r (yO r m) sp ar=c
 generalize yO r m=f
 by_cases hk:r.kind=1
 ·simp only[if_pos hk]
  cases sp<;>cases ar<;>rfl
 ·simp only[if_neg hk]
  cases sp<;>cases ar<;>rfl
theorem rpY_get (S:List Syn)(rs:List Rul)(pl:List Int)(arr spk:List Bool)(rw0:List Int)(m:List Mrk)(hl:pl.length≤m.length) :∀j,j≤pl.length → ∀i,(rpY S rs pl arr spk rw0 m j).getD i qM =
  if i<j∧0≤pl.getD i (-1)then rpMark (rs.getD (pl.getD i (-1)).toNat q8) (spk.getD (S.getD i qX).to.toNat false) (arr.getD i false) (rw0.getD (pl.getD i (-1)).toNat 0) (m.getD i qM)else m.getD i qM
 | 0,_,i=>by rw[if_neg (by omega)];rfl
 |j+1,hj,i=>by
  have ih:=rpY_get S rs pl arr spk rw0 m hl j (by omega)
  rw[rpY_succ]
  unfold rpStep
  split
  ·rename_i hn
   rw[ih i]
   by_cases hij:i=j
   ·subst hij
    rw[if_neg (by omega),if_neg (by omega)]
   ·by_cases hc:i<j∧0≤pl.getD i (-1)
    ·rw[if_pos hc,if_pos (by omega)]
    ·rw[if_neg hc,if_neg (by omega)]
  ·rename_i hn
   rw[kZ (by rw[wY];omega)]
   by_cases hij:j=i
   ·subst hij
    rw[if_pos rfl,if_pos (by omega),ih j,if_neg (by omega)]
   ·rw[if_neg hij,ih i]
    by_cases hc:i<j∧0≤pl.getD i (-1)
    ·rw[if_pos hc,if_pos (by omega)]
    ·rw[if_neg hc,if_neg (by omega)]
theorem rp_eq {x:Lnt}{s:Lst}(hx:NetOK x)(h:LInv x s)(rw0:List Int)(spk:List Bool)(hspk :∀i,i<x.n.N.length→spk.getD i false=decide ((i:Int)∈(lB x s).2.2)) :
  rpY x.n.S x.rs x.pl (lA x s).1 spk rw0 s.m x.n.S.length=lP x s rw0:=by
 have hpl:=hx.lpl
 have hm:=h.lm
 refine getD_ext (by rw[wY,lP_len]) fun i=> ?_
 rw[lP_get hx h,←hpl,rpY_get _ _ _ _ _ _ _ (by omega) _ (Nat.le_refl _)]
 by_cases hi:i∈zG x.pl
 ·have hi2:=plIdx_iff.1 hi
  rw[if_pos hi,if_pos hi2]
  have hS:i<x.n.S.length:=by omega
  have hg:x.n.S.getD i qX=x.n.S[i]:=by simp[List.getD_eq_getElem?_getD,hS]
  have h0:=hx.to0 i hS
  have h1:=hx.to1 i hS
  have e:spk.getD (x.n.S.getD i qX).to.toNat false=decide ((x.n.S.getD i qX).to∈(lB x s).2.2):=by
   rw[hg,hspk _ (by omega),show((x.n.S[i].to.toNat:Nat):Int)=x.n.S[i].to by omega]
  rw[e]
  exact rpMark_eq (hx.good hi) (h.mok i hi) _ _ _
 ·rw[if_neg hi,if_neg (fun h=>hi (plIdx_iff.2 h))]
def grpR (S:List Syn)(pl:List Int)(r p:Int)(j:Nat):List Nat:=(List.range j).filter fun i=>decide (pl.getD i (-1)=r∧(S.getD i qX).to=p)
theorem grp_rangeJ (S:List Syn)(pl:List Int){r p:Int}(hr:0≤r):grp S pl r p=grpR S pl r p pl.length:=by
 unfold grp grpR zG
 rw[List.filter_filter]
 congr 1
 funext i
 by_cases h:pl.getD i (-1)=r∧(S.getD i qX).to=p
 ·rw[decide_eq_true h,decide_eq_true (show 0≤pl.getD i (-1)by omega)];rfl
 ·rw[decide_eq_false h];rfl
theorem gsumJ_app (a b:List Nat)(m:List Mrk):qW (a++b) m=qW a m+qW b m:=by
 induction a with
 |nil=>simp[qW]
 |cons i a ih=>
  show wAt m i+qW (a++b) m=(wAt m i+qW a m)+qW b m
  rw[ih];omega
theorem rsY_sum (S:List Syn)(pl:List Int)(m:List Mrk)(R N:Nat)(hp :∀i (h:i<pl.length),pl[i]<(R:Int))(hS:pl.length=S.length)(hl:pl.length≤8192)(h0 :∀i (h:i<S.length),0≤S[i].to)(h1 :∀i (h:i<S.length),S[i].to<(N:Int))(hb :∀i∈zG pl,-255≤wAt m i∧wAt m i≤255) :∀j,j≤pl.length → ∀r p:Nat,r<R→p<N →
  (rsY S pl m R N j r).getD p 0=qW (grpR S pl r p j) m ∧ -255*(j:Int)≤qW (grpR S pl r p j) m∧qW (grpR S pl r p j) m≤255*(j:Int)
 | 0,_,r,p,hr,hpN=>by
  refine⟨?_,by simp[grpR,qW],by simp[grpR,qW]⟩
  simp[rsY,zF,hr,hpN,grpR,qW]
 |j+1,hj,r,p,hr,hpN=>by
  have ih:=rsY_sum S pl m R N hp hS hl h0 h1 hb j (by omega)
  obtain⟨i1,i2,i3⟩:=ih r p hr hpN
  have hlen:=u7 S pl m R N j
  have hjp:j<pl.length:=by omega
  have hjS:j<S.length:=by omega
  have hpj:=hp j hjp
  have epj:pl.getD j (-1)=pl[j]:=by simp[List.getD_eq_getElem?_getD,hjp]
  have esj:S.getD j qX=S[j]:=by simp[List.getD_eq_getElem?_getD,hjS]
  have t0:=h0 j hjS
  have t1:=h1 j hjS
  have hsplit:grpR S pl r p (j+1)=grpR S pl r p j++(if pl[j]=(r:Int)∧S[j].to=(p:Int)then [j]else []):=by
   unfold grpR
   rw[List.range_succ,List.filter_append]
   congr 1
   rw[List.filter_cons,List.filter_nil,epj,esj]
   by_cases h:pl[j]=(r:Int)∧S[j].to=(p:Int)
   ·rw[if_pos h,if_pos (decide_eq_true h)]
   ·rw[if_neg h,if_neg (by simp[h])]
  rw[rsY_succ,hsplit,gsumJ_app]
  unfold rsStep
  rw[epj,esj]
  by_cases h:pl[j]=(r:Int)∧S[j].to=(p:Int)
  ·have hw:=hb j (plIdx_iff.2 ⟨hjp,by rw[epj];omega⟩)
   have hg1:qW [j] m=wAt m j:=by simp[qW]
   rw[if_pos h,if_pos (by omega),hg1]
   have e1:pl[j].toNat=r:=by omega
   have e2:S[j].to.toNat=p:=by omega
   rw[e1,e2]
   refine⟨?_,by omega,by omega⟩
   unfold putF
   rw[if_pos rfl]
   have hlr:(rsY S pl m R N j r).length=N:=by rw[hlen];unfold cN;rw[if_pos hr]
   rw[i1,List.getD_eq_getElem?_getD,List.getElem?_set_self (by omega)]
   show W (qW (grpR S pl r p j) m+wAt m j)=_
   exact zL (by omega) (by omega)
  ·rw[if_neg h]
   have hg1:qW [] m=0:=rfl
   rw[hg1,Int.add_zero]
   refine⟨?_,by omega,by omega⟩
   by_cases hp0:0≤pl[j]
   ·rw[if_pos hp0]
    unfold putF
    by_cases hk:r=pl[j].toNat
    ·rw[if_pos hk,←hk]
     have hne:S[j].to.toNat≠p:=fun e=>h ⟨by omega,by omega⟩
     rw[List.getD_eq_getElem?_getD,List.getElem?_set_ne hne,←List.getD_eq_getElem?_getD]
     exact i1
    ·rw[if_neg hk];exact i1
   ·rw[if_neg hp0];exact i1
theorem rsL_sum {x:Lnt}(hx:NetOK x){m:List Mrk}(hb :∀i∈zG x.pl,-255≤wAt m i∧wAt m i≤255){r p:Nat}(hr:r<x.rs.length)(hp:p<x.n.N.length) :
  (rsL x.n.S x.pl m x.rs.length x.n.N.length r).getD p 0=qW (grp x.n.S x.pl r p) m:=by
 have h1:=hx.lpl
 have h2:=hx.S1
 rw[grp_rangeJ x.n.S x.pl (show(0:Int)≤(r:Int)by omega)]
 exact(rsY_sum x.n.S x.pl m x.rs.length x.n.N.length hx.p1 h1 (by omega) hx.to0 hx.to1 hb x.pl.length (Nat.le_refl _) r p hr hp).1
set_option maxHeartbeats 8000000
set_option maxHeartbeats 2000000
theorem m0_bounds {x:Lnt}(hx:NetOK x) :∀i∈zG x.pl,-255≤wAt x.m0 i∧wAt x.m0 i≤255:=fun i hi=>by
 have h0:=LInv.start hx
 have h1:=(h0.mok i hi).w0
 have h2:=(h0.mok i hi).w1
 have h3:=(hx.good hi).bounds
 have e:x.new.m=x.m0:=rfl
 rw[e]at h1 h2
 unfold wAt
 omega
def rrZ (S:List Syn)(pl:List Int)(r p lo hi tot:Int)(x:Int×List Mrk)(i0:Nat):Nat→Int×List Mrk
 | 0=>x
 |k+1=>yL S pl r p lo hi tot (rrZ S pl r p lo hi tot x i0 k) ((i0+k) % S.length)
theorem rB (S:List Syn)(pl:List Int)(r p lo hi tot:Int)(x:Int×List Mrk)(i0:Nat) :∀k,rrZ S pl r p lo hi tot x i0 (k+1)=rrZ S pl r p lo hi tot (yL S pl r p lo hi tot x (i0 % S.length)) (i0+1) k
 | 0=>rfl
 |k+1=>by
  have ih:=rB S pl r p lo hi tot x i0 k
  show yL S pl r p lo hi tot (rrZ S pl r p lo hi tot x i0 (k+1)) ((i0+(k+1)) % S.length)=yL S pl r p lo hi tot _ ((i0+1+k) % S.length)
  rw[ih,show i0+(k+1)=i0+1+k by omega]
theorem rrZ_zero (S:List Syn)(pl:List Int)(r p lo hi tot:Int)(x:Int×List Mrk) :∀k,rrZ S pl r p lo hi tot x 0 k=rrY S pl r p lo hi tot x k
 | 0=>rfl
 |k+1=>by
  show yL S pl r p lo hi tot (rrZ S pl r p lo hi tot x 0 k) ((0+k) % S.length)=yL S pl r p lo hi tot _ (k % S.length)
  rw[rrZ_zero S pl r p lo hi tot x k,Nat.zero_add]
theorem rrZ_len (S:List Syn)(pl:List Int)(r p lo hi tot:Int)(x:Int×List Mrk) :∀k,rrZ S pl r p lo hi tot x S.length k=rrZ S pl r p lo hi tot x 0 k
 | 0=>rfl
 |k+1=>by
  show yL S pl r p lo hi tot (rrZ S pl r p lo hi tot x S.length k) ((S.length+k) % S.length)=yL S pl r p lo hi tot (rrZ S pl r p lo hi tot x 0 k) ((0+k) % S.length)
  rw[rrZ_len S pl r p lo hi tot x k,Nat.add_mod_left,Nat.zero_add]
def Hits (S:List Syn)(pl:List Int)(r p lo hi tot:Int)(x:Int×List Mrk)(i0:Nat)(mF:List Mrk):Prop:=
 ∃K,(∀k,k<K→(rrZ S pl r p lo hi tot x i0 k).1≠tot)∧rrZ S pl r p lo hi tot x i0 K=(tot,mF)
theorem Hits.done {S:List Syn}{pl:List Int}{r p lo hi tot:Int}{m:List Mrk}{i0:Nat}:Hits S pl r p lo hi tot (tot,m) i0 m:=⟨0,fun k h=>by omega,rfl⟩
theorem Hits.step {S:List Syn}{pl:List Int}{r p lo hi tot:Int}{x:Int×List Mrk}{i0:Nat}{mF:List Mrk}(hx:x.1≠tot)(h:Hits S pl r p lo hi tot (yL S pl r p lo hi tot x (i0 % S.length)) (i0+1) mF):Hits S pl r p lo hi tot x i0 mF:=by
 obtain⟨K,h1,h2⟩:=h
 refine⟨K+1,fun k hk=> ?_,by rw[rB];exact h2⟩
 cases k with
 |zero=>exact hx
 |succ k=>rw[rB];exact h1 k (by omega)
theorem Hits.wrap {S:List Syn}{pl:List Int}{r p lo hi tot:Int}{x:Int×List Mrk}{mF:List Mrk}(h:Hits S pl r p lo hi tot x 0 mF):Hits S pl r p lo hi tot x S.length mF:=by
 obtain⟨K,h1,h2⟩:=h
 exact⟨K,fun k hk=>by rw[rrZ_len];exact h1 k hk,by rw[rrZ_len];exact h2⟩
theorem uU {α β : Type}(q : α → Bool)(f : β → α → β)(h :∀a,q a=false → ∀x,f x a=x) :∀(l:List α) (x : β),l.foldl f x=(l.filter q).foldl f x
 | [],_=>rfl
 |a::l,x=>by
  rw[List.foldl_cons,List.filter_cons]
  cases hq:q a
  ·rw[h a hq,if_neg (by simp)];exact uU q f h l x
  ·rw[if_pos rfl,List.foldl_cons];exact uU q f h l _
theorem rdL_all (S:List Syn)(pl:List Int){r:Int}(p to s:Int)(hr:0≤r)(hp:pl.length=S.length)(x:Int×List Mrk):rdL S pl r p to s x=(List.range' 0 S.length).foldl (j4 S pl r p to s) x:=by
 unfold rdL zG
 rw[hp,←List.range_eq_range',←uU]
 intro a ha y
 unfold j4
 rw[if_neg]
 rintro⟨_,h,_⟩
 have:=of_decide_eq_false ha
 omega
theorem rd_zero (S:List Syn)(pl:List Int)(r p to s:Int)(m:List Mrk) :∀l:List Nat,l.foldl (j4 S pl r p to s) (0,m)=(0,m)
 | []=>rfl
 |a::l=>by
  rw[List.foldl_cons]
  have:j4 S pl r p to s (0,m) a=(0,m):=by unfold j4;rw[if_neg];rintro⟨h,_⟩;exact h rfl
  rw[this];exact rd_zero S pl r p to s m l
theorem rr_rd {S:List Syn}{pl:List Int}{r p lo hi tot to s left:Int}{m:List Mrk}{i:Nat}(hlo : -255≤lo)(hhi:hi≤255)(hs:(s=1∧to=hi)∨(s = -1∧to=lo))(hT : -3000000≤tot∧tot≤3000000)(h0:0<s*left)(h1:s*left≤1000000000)(hb:pl.getD i (-1)=r∧(S.getD i qX).to=p→lo≤wAt m i∧wAt m i≤hi) :
  ∃left' m',j4 S pl r p to s (left,m) i=(left',m')∧yL S pl r p lo hi tot (tot-left,m) i=(tot-left',m')∧0≤s*left'∧s*left'≤s*left∧m'.length=m.length∧(∀j,j≠i→m'.getD j qM=m.getD j qM)∧(i<m.length→pl.getD i (-1)=r∧(S.getD i qX).to=p→lo≤wAt m' i∧wAt m' i≤hi):=by
 by_cases hg:pl.getD i (-1)=r∧(S.getD i qX).to=p
 ·have hw:=hb hg
  have hne:left≠0:=by rintro rfl;omega
  by_cases hto:wAt m i=to
  ·refine⟨left,m,?_,?_,by omega,by omega,rfl,fun _ _=>rfl,fun _ _=>hw⟩
   ·unfold j4
    rw[if_neg]
    rintro⟨_,_,_,h⟩
    exact h hto
   ·unfold yL
    rw[if_pos hg]
    rcases hs with⟨rfl,rfl⟩|⟨rfl,rfl⟩
    ·rw[if_pos (show tot-left<tot by omega),if_neg (show ¬(m.getD i qM).w<to by have:(m.getD i qM).w=to:=hto;omega)]
    ·rw[if_neg (show ¬tot-left<tot by omega),if_neg (show ¬to<(m.getD i qM).w by have:(m.getD i qM).w=to:=hto;omega)]
  ·refine⟨left-s,m.set i { m.getD i qM with w:=wAt m i+s },?_,?_,?_,?_,by simp,fun j hj=> ?_,fun hi' _=> ?_⟩
   ·unfold j4
    rw[if_pos ⟨hne,hg.1,hg.2,hto⟩]
    show(W (left-s),m.set i { m.getD i qM with w:=W (wAt m i+s) })=_
    rcases hs with⟨rfl,rfl⟩|⟨rfl,rfl⟩<;>rw[zL (by omega) (by omega),zL (by omega) (by omega)]
   ·unfold yL
    rw[if_pos hg]
    rcases hs with⟨rfl,rfl⟩|⟨rfl,rfl⟩
    ·rw[if_pos (show tot-left<tot by omega),if_pos (show(m.getD i qM).w<to by have:(m.getD i qM).w≠to:=hto;have:(m.getD i qM).w≤to:=hw.2;omega)]
     show(W (tot-left+1),m.set i { m.getD i qM with w:=W (wAt m i+1) })=_
     rw[zL (by omega) (by omega),zL (by omega) (by omega),show tot-left+1=tot-(left-1)by omega]
    ·rw[if_neg (show ¬tot-left<tot by omega),if_pos (show to<(m.getD i qM).w by have:(m.getD i qM).w≠to:=hto;have:to≤(m.getD i qM).w:=hw.1;omega)]
     show(W (tot-left-1),m.set i { m.getD i qM with w:=W (wAt m i-1) })=_
     rw[zL (by omega) (by omega),zL (by omega) (by omega),show tot-left-1=tot-(left - -1)by omega];rfl
   ·rcases hs with⟨rfl,rfl⟩|⟨rfl,rfl⟩<;>omega
   ·rcases hs with⟨rfl,rfl⟩|⟨rfl,rfl⟩<;>omega
   ·rw[List.getD_eq_getElem?_getD,List.getElem?_set_ne (fun h=>hj h.symm),←List.getD_eq_getElem?_getD]
   ·have:wAt (m.set i { m.getD i qM with w:=wAt m i+s }) i=wAt m i+s:=by
     unfold wAt
     rw[kZ hi',if_pos rfl]
    rw[this]
    rcases hs with⟨rfl,rfl⟩|⟨rfl,rfl⟩<;>omega
 ·refine⟨left,m,?_,?_,by omega,by omega,rfl,fun _ _=>rfl,fun _ h=>absurd h hg⟩
  ·unfold j4
   rw[if_neg]
   rintro⟨_,h1,h2,_⟩
   exact hg ⟨h1,h2⟩
  ·unfold yL
   rw[if_neg hg]
theorem cyc {S:List Syn}{pl:List Int}{r p lo hi tot to s:Int}(hlo : -255≤lo)(hhi:hi≤255)(hs:(s=1∧to=hi)∨(s = -1∧to=lo))(hT : -3000000≤tot∧tot≤3000000) :∀(n j:Nat) (left:Int) (m:List Mrk),j+n=S.length→m.length=S.length→0<s*left→s*left≤1000000000 →
  (∀i,pl.getD i (-1)=r∧(S.getD i qX).to=p→lo≤wAt m i∧wAt m i≤hi) →
  (((List.range' j n).foldl (j4 S pl r p to s) (left,m)).1=0→Hits S pl r p lo hi tot (tot-left,m) j ((List.range' j n).foldl (j4 S pl r p to s) (left,m)).2) ∧
  (∀mF,Hits S pl r p lo hi tot (tot-((List.range' j n).foldl (j4 S pl r p to s) (left,m)).1,((List.range' j n).foldl (j4 S pl r p to s) (left,m)).2) S.length mF→((List.range' j n).foldl (j4 S pl r p to s) (left,m)).1≠0→Hits S pl r p lo hi tot (tot-left,m) j mF)
 | 0,j,left,m,hj,_,h0,_,_=>by
  have hj':j=S.length:=by omega
  subst hj'
  refine⟨fun h=> ?_,fun mF h _=>h⟩
  have:left=0:=h
  subst this;omega
 |n+1,j,left,m,hj,hm,h0,h1,hb=>by
  rw[List.range'_succ,List.foldl_cons]
  obtain⟨left',m',e1,e2,a0,a1,a2,a3,a4⟩:=rr_rd (i:=j) (m:=m) hlo hhi hs hT h0 h1 (hb j)
  rw[e1]
  have hne:tot-left≠tot:=fun h=>by
   have:left=0:=by omega
   subst this;omega
  have hjm:j % S.length=j:=Nat.mod_eq_of_lt (by omega)
  have hst :∀mF,Hits S pl r p lo hi tot (tot-left',m') (j+1) mF→Hits S pl r p lo hi tot (tot-left,m) j mF:=fun mF h=>Hits.step hne (by rw[hjm,e2];exact h)
  have hb' :∀i,pl.getD i (-1)=r∧(S.getD i qX).to=p→lo≤wAt m' i∧wAt m' i≤hi:=fun i hi=>by
   by_cases hij:i=j
   ·subst hij;exact a4 (by omega) hi
   ·have:=hb i hi
    unfold wAt at this ⊢
    rw[a3 i hij];exact this
  by_cases hz:left'=0
  ·subst hz
   rw[rd_zero]
   refine⟨fun _=>hst _ ?_,fun mF _ h=>absurd rfl h⟩
   rw[Int.sub_zero];exact Hits.done
  ·obtain⟨c1,c2⟩:=cyc hlo hhi hs hT n (j+1) left' m' (by omega) (by omega) (by rcases hs with⟨rfl,rfl⟩|⟨rfl,rfl⟩<;>omega) (by omega) hb'
   exact⟨fun h=>hst _ (c1 h),fun mF h h'=>hst _ (c2 mF h h')⟩
theorem rounds {S:List Syn}{pl:List Int}{r p lo hi tot to s:Int}(hr:0≤r)(hp:pl.length=S.length)(hlo : -255≤lo)(hhi:hi≤255)(hs:(s=1∧to=hi)∨(s = -1∧to=lo))(hT : -3000000≤tot∧tot≤3000000)(q:Int×List Mrk→Bool)(hq :∀x,q x=decide (0<s*x.1)) :
  ∀(k:Nat) (left:Int) (m:List Mrk),m.length=S.length→0≤s*left→s*left≤1000000000→(∀i,pl.getD i (-1)=r∧(S.getD i qX).to=p→lo≤wAt m i∧wAt m i≤hi) →
  (jG q (rdL S pl r p to s) k (left,m)).1=0→Hits S pl r p lo hi tot (tot-left,m) 0 (jG q (rdL S pl r p to s) k (left,m)).2
 | 0,left,m,_,_,_,_,hz=>by
  have:left=0:=hz
  subst this
  rw[Int.sub_zero];exact Hits.done
 |k+1,left,m,hm,h0,h1,hb,hz=>by
  unfold jG at hz ⊢
  rw[hq]at hz ⊢
  by_cases h:0<s*left
  ·rw[decide_eq_true h]at hz ⊢
   simp only at hz ⊢
   have hbg :∀i∈grp S pl r p,lo≤wAt (left,m).2 i∧wAt (left,m).2 i≤hi:=fun i hi=>hb i (grp_mem.1 hi).2
   obtain⟨rp,_⟩:=round_p (to:=to) hlo hhi hs (grp S pl r p) (left,m) (gQ ..) (fun i hi=>by have:=t8 (grp_mem.1 hi).1;show i<m.length;omega) hbg h0 h1
   rw[←u6]at rp
   obtain⟨c1,c2⟩:=cyc hlo hhi hs hT S.length 0 left m (by omega) hm h h1 hb
   rw[←rdL_all S pl p to s hr hp]at c1 c2
   have p1:=rp.pos
   have p2:=rp.le
   have p3:=rp.inb
   have p4:=rp.len
   have p5:=rp.out
   generalize rdL S pl r p to s (left,m)=y at hz c1 c2 p1 p2 p3 p4 p5 ⊢
   obtain⟨yl,ym⟩:=y
   have p2':s*yl≤s*left:=p2
   have hb' :∀i,pl.getD i (-1)=r∧(S.getD i qX).to=p→lo≤wAt ym i∧wAt ym i≤hi:=fun i hi=>by
    by_cases hi':i∈grp S pl r p
    ·exact p3 i hi'
    ·have:=hb i hi
     have e:ym.getD i qM=m.getD i qM:=p5 i hi'
     unfold wAt at this ⊢
     rw[e];exact this
   by_cases hy:yl=0
   ·subst hy
    have e:jG q (rdL S pl r p to s) k (0,ym)=(0,ym):=by
     cases k with
     |zero=>rfl
     |succ k=>unfold jG;rw[hq,decide_eq_false (by show ¬ 0<s*0;omega)]
    rw[e]
    exact c1 rfl
   ·exact c2 _ (rounds hr hp hlo hhi hs hT q hq k yl ym (by rw[←hm];exact p4) p1 (by omega) hb' hz).wrap hy
  ·rw[decide_eq_false h]
   have:left=0:=by rcases hs with⟨rfl,rfl⟩|⟨rfl,rfl⟩<;>omega
   subst this
   rw[Int.sub_zero];exact Hits.done
theorem rest_hits {S:List Syn}{rs:List Rul}{pl:List Int}{tot:List (Key×Value)}{m m2:List Mrk}{e:Key×Value}{r p:Int}{ru:Rul}(hr:0≤r)(hp:pl.length=S.length)(h:RestHyp S rs pl tot m)(he:EntP S rs pl m e r p ru)(hl:m2.length=m.length)(hag :∀i∈grp S pl r p,m2.getD i qM=m.getD i qM) :
  Hits S pl r p ru.lo ru.hi (kiv tot e.1) (qW (grp S pl r p) m,m2) 0 (yK S rs pl tot m2 e):=by
 obtain⟨o1,o2,o3⟩:=h.one he hl hag
 have hk:=he.key
 have hru:rs.getD (Key.fst e.1).toNat q8=ru:=by rw[hk];exact he.rul
 have hv:ival e.2=qW (grp S pl r p) m:=by rw[he.val];rfl
 have h8:=h.hpl
 have hml:=h.hm
 have hm2:m2.length=S.length:=by omega
 have hgl:=grp_len S pl r p
 have hbm :∀i,pl.getD i (-1)=r∧(S.getD i qX).to=p→ru.lo≤wAt m2 i∧wAt m2 i≤ru.hi:=fun i hi=>by
  have hi2:i∈zG pl:=by
   refine plIdx_iff.2 ⟨?_,by omega⟩
   apply Classical.byContradiction
   intro hn
   have:pl.getD i (-1) = -1:=by rw[List.getD_eq_getElem?_getD,List.getElem?_eq_none (by omega)];rfl
   omega
  have hb:=h.inb i hi2
  have e1:=hag i (grp_mem.2 ⟨hi2,hi⟩)
  rw[hi.1,he.rul]at hb
  unfold wAt at hb ⊢
  rw[e1];exact hb
 have hT:=h.tot r p (by rw[he.rul];exact he.sum)
 rw[he.rul,←hk]at hT
 have b1:=gC (g:=grp S pl r p) he.lo (by have:=he.lh;have:=he.hi;omega)
 have b2:=gC (g:=grp S pl r p) (show -255≤ru.hi by have:=he.lh;have:=he.lo;omega) he.hi
 have b3:gcon (grp S pl r p) ru.lo≤qW (grp S pl r p) m∧qW (grp S pl r p) m≤gcon (grp S pl r p) ru.hi:=wA fun i hi=>by
  have:=h.inb i (grp_mem.1 hi).1
  rw[(grp_mem.1 hi).2.1,he.rul]at this
  exact this
 have hW:W (kiv tot e.1-ival e.2)=kiv tot e.1-qW (grp S pl r p) m:=by rw[hv];exact zL (by omega) (by omega)
 have hgs:qW (grp S pl r p) m2=qW (grp S pl r p) m:=uV fun i hi=>by unfold wAt;rw[hag i hi]
 unfold yK
 rw[hW]
 rw[←hgs]at b3 ⊢
 generalize kiv tot e.1=T at hT ⊢
 have hup :∀x,yQ S rs pl e.1 x=jG qUp (rdL S pl r p ru.hi 1) x.1.toNat x:=fun x=>by unfold yQ;rw[hru,hk];rfl
 have hdn :∀x,xM S rs pl e.1 x=jG qDn (rdL S pl r p ru.lo (-1)) (-x.1).toNat x:=fun x=>by unfold xM;rw[hru,hk];rfl
 have hqu :∀x,qUp x=decide (0<1*x.1):=fun x=>by unfold qUp;rw[Int.one_mul]
 have hqd :∀x,qDn x=decide (0 < -1*x.1):=fun x=>by
  unfold qDn
  congr 1
  apply propext
  omega
 have hbg :∀i∈grp S pl r p,ru.lo≤wAt m2 i∧wAt m2 i≤ru.hi:=fun i hi=>hbm i (grp_mem.1 hi).2
 have hlg :∀i∈grp S pl r p,i<m2.length:=fun i hi=>by have:=t8 (grp_mem.1 hi).1;omega
 rw[hup]
 by_cases hc:0≤T-qW (grp S pl r p) m2
 ·obtain⟨_,hz⟩:=loop_p (T:=T) (g:=grp S pl r p) he.lo he.hi (.inl ⟨rfl,rfl⟩) (gQ ..) hT qUp hqu (T-qW (grp S pl r p) m2).toNat (T-qW (grp S pl r p) m2,m2) (by show(1*(T-qW (grp S pl r p) m2)).toNat≤_;omega) hlg hbg (by show 0≤1*(T-qW (grp S pl r p) m2);omega) (by show 1*(T-qW (grp S pl r p) m2)≤_;omega) (by show T-qW (grp S pl r p) m2+qW (grp S pl r p) m2=T;omega)
  have hfe:(fun x=>(grp S pl r p).foldl (yF ru.hi 1) x)=rdL S pl r p ru.hi 1:=by funext x;rw[u6]
  rw[hfe]at hz
  have hd:xM S rs pl e.1 (jG qUp (rdL S pl r p ru.hi 1) (T-qW (grp S pl r p) m2).toNat (T-qW (grp S pl r p) m2,m2))=jG qUp (rdL S pl r p ru.hi 1) (T-qW (grp S pl r p) m2).toNat (T-qW (grp S pl r p) m2,m2):=by
   rw[hdn,hz]
   rfl
  rw[hd]
  have:=rounds hr hp he.lo he.hi (.inl ⟨rfl,rfl⟩) (by omega) qUp hqu (tot:=T) (T-qW (grp S pl r p) m2).toNat (T-qW (grp S pl r p) m2) m2 hm2 (by omega) (by omega) hbm hz
  rw[show T-(T-qW (grp S pl r p) m2)=qW (grp S pl r p) m2 by omega]at this
  exact this
 ·have e0:jG qUp (rdL S pl r p ru.hi 1) (T-qW (grp S pl r p) m2).toNat (T-qW (grp S pl r p) m2,m2)=(T-qW (grp S pl r p) m2,m2):=by
   rw[show(T-qW (grp S pl r p) m2).toNat=0 by omega]
   rfl
  rw[e0,hdn]
  obtain⟨_,hz⟩:=loop_p (T:=T) (g:=grp S pl r p) he.lo he.hi (.inr ⟨rfl,rfl⟩) (gQ ..) hT qDn hqd (-(T-qW (grp S pl r p) m2)).toNat (T-qW (grp S pl r p) m2,m2) (by show(-1*(T-qW (grp S pl r p) m2)).toNat≤_;omega) hlg hbg (by show 0 ≤ -1*(T-qW (grp S pl r p) m2);omega) (by show -1*(T-qW (grp S pl r p) m2)≤_;omega) (by show T-qW (grp S pl r p) m2+qW (grp S pl r p) m2=T;omega)
  have hfe:(fun x=>(grp S pl r p).foldl (yF ru.lo (-1)) x)=rdL S pl r p ru.lo (-1):=by funext x;rw[u6]
  rw[hfe]at hz
  have:=rounds hr hp he.lo he.hi (.inr ⟨rfl,rfl⟩) (by omega) qDn hqd (tot:=T) (-(T-qW (grp S pl r p) m2)).toNat (T-qW (grp S pl r p) m2) m2 hm2 (by omega) (by omega) hbm hz
  rw[show T-(T-qW (grp S pl r p) m2)=qW (grp S pl r p) m2 by omega]at this
  exact this
def zE (S:List Syn)(pl:List Int)(mP:List Mrk)(r p:Nat):Key×Value:=(.p r p,.int .i64 (qW (grp S pl r p) mP))
def zP (S:List Syn)(rs:List Rul)(pl:List Int)(tot:List (Key×Value))(mP:List Mrk)(r:Nat)(m:List Mrk):Nat→List Mrk
 | 0=>m
 |p+1=>yK S rs pl tot (zP S rs pl tot mP r m p) (zE S pl mP r p)
def zY (S:List Syn)(rs:List Rul)(pl:List Int)(tot:List (Key×Value))(mP:List Mrk)(N:Nat):Nat→List Mrk
 | 0=>mP
 |r+1=>if (rs.getD r q8).sum=true then zP S rs pl tot mP r (zY S rs pl tot mP N r) N else zY S rs pl tot mP N r
section
variable {S:List Syn} {rs:List Rul} {pl:List Int} {tot:List (Key×Value)} {mP:List Mrk}
theorem zP_get (h:RestHyp S rs pl tot mP){r:Nat}{m:List Mrk}(he :∀p:Nat,EntP S rs pl mP (zE S pl mP r p) r p (rs.getD r q8))(hl:m.length=mP.length)(hm :∀p:Nat,∀i∈grp S pl r p,m.getD i qM=mP.getD i qM) :∀p:Nat,
  (zP S rs pl tot mP r m p).length=mP.length∧(∀p',p'<p → ∀i∈grp S pl r (p':Nat),(zP S rs pl tot mP r m p).getD i qM=(yK S rs pl tot mP (zE S pl mP r p')).getD i qM)∧(∀i,(∀p',p'<p→i∉grp S pl r (p':Nat))→(zP S rs pl tot mP r m p).getD i qM=m.getD i qM)
 | 0=>⟨hl,fun p' h=>by omega,fun _ _=>rfl⟩
 |p+1=>by
  obtain⟨i1,i2,i3⟩:=zP_get h he hl hm p
  have hag :∀i∈grp S pl r p,(zP S rs pl tot mP r m p).getD i qM=mP.getD i qM:=fun i hi=>by
   rw[i3 i fun p' hp' hi'=>by have:=(k7 hi hi').2;omega]
   exact hm p i hi
  obtain⟨_,_,o3⟩:=h.one (he p) i1 hag
  refine⟨o3.len.trans i1,fun p' hp' i hi=> ?_,fun i hi=> ?_⟩
  ·by_cases hpp:p'=p
   ·subst hpp
    exact rW S rs pl tot (zE S pl mP r p') (g:=grp S pl r p') rfl i1 hag i hi
   ·have hn:i∉grp S pl r p:=fun hi'=>by have:=(k7 hi hi').2;omega
    exact(o3.out i hn).trans (i2 p' (by omega) i hi)
  ·exact(o3.out i (hi p (by omega))).trans (i3 i fun p' hp'=>hi p' (by omega))
theorem zY_get (h:RestHyp S rs pl tot mP)(N R:Nat)(he :∀r:Nat,r<R→(rs.getD r q8).sum=true → ∀p:Nat,EntP S rs pl mP (zE S pl mP r p) r p (rs.getD r q8)) :∀r:Nat,r≤R →
  (zY S rs pl tot mP N r).length=mP.length∧(∀r',r'<r→(rs.getD r' q8).sum=true → ∀p',p'<N → ∀i∈grp S pl (r':Nat) (p':Nat),(zY S rs pl tot mP N r).getD i qM=(yK S rs pl tot mP (zE S pl mP r' p')).getD i qM)∧(∀i,(∀r',r'<r→(rs.getD r' q8).sum=true → ∀p',p'<N→i∉grp S pl (r':Nat) (p':Nat))→(zY S rs pl tot mP N r).getD i qM=mP.getD i qM)
 | 0,_=>⟨rfl,fun r' h=>by omega,fun _ _=>rfl⟩
 |r+1,hr=>by
  obtain⟨i1,i2,i3⟩:=zY_get h N R he r (by omega)
  unfold zY
  by_cases hs:(rs.getD r q8).sum=true
  ·rw[if_pos hs]
   have hm :∀p:Nat,∀i∈grp S pl r p,(zY S rs pl tot mP N r).getD i qM=mP.getD i qM:=fun p i hi=>i3 i fun r' hr' _ p' _ hi'=>by have:=(k7 hi hi').1;omega
   obtain⟨j1,j2,j3⟩:=zP_get h (he r (by omega) hs) i1 hm N
   refine⟨j1,fun r' hr' hs' p' hp' i hi=> ?_,fun i hi=> ?_⟩
   ·by_cases hrr:r'=r
    ·subst hrr;exact j2 p' hp' i hi
    ·rw[j3 i fun p2 _ hi'=>by have:=(k7 hi hi').1;omega]
     exact i2 r' (by omega) hs' p' hp' i hi
   ·rw[j3 i fun p' hp'=>hi r (by omega) hs p' hp']
    exact i3 i fun r' hr'=>hi r' (by omega)
  ·rw[if_neg hs]
   refine⟨i1,fun r' hr' hs' p' hp' i hi=> ?_,fun i hi=>i3 i fun r' hr'=>hi r' (by omega)⟩
   by_cases hrr:r'=r
   ·subst hrr;exact absurd hs' hs
   ·exact i2 r' (by omega) hs' p' hp' i hi
theorem looks (h:RestHyp S rs pl tot mP)(N R:Nat)(hp:pl.length=S.length)(he :∀r:Nat,r<R→(rs.getD r q8).sum=true → ∀p:Nat,EntP S rs pl mP (zE S pl mP r p) r p (rs.getD r q8)) :
  ∃Kf:Nat→Nat→Nat,∀r p:Nat,r<R→(rs.getD r q8).sum=true→p<N →
   (∀k,k<Kf r p→(rrY S pl r p (rs.getD r q8).lo (rs.getD r q8).hi (kiv tot (.p r p)) (qW (grp S pl r p) mP,zP S rs pl tot mP r (zY S rs pl tot mP N r) p) k).1≠kiv tot (.p r p)) ∧
   rrY S pl r p (rs.getD r q8).lo (rs.getD r q8).hi (kiv tot (.p r p)) (qW (grp S pl r p) mP,zP S rs pl tot mP r (zY S rs pl tot mP N r) p) (Kf r p)=(kiv tot (.p r p),zP S rs pl tot mP r (zY S rs pl tot mP N r) (p+1)):=by
 have hex :∀r p:Nat,∃K:Nat,r<R→(rs.getD r q8).sum=true→p<N →
   (∀k,k<K→(rrY S pl r p (rs.getD r q8).lo (rs.getD r q8).hi (kiv tot (.p r p)) (qW (grp S pl r p) mP,zP S rs pl tot mP r (zY S rs pl tot mP N r) p) k).1≠kiv tot (.p r p)) ∧
   rrY S pl r p (rs.getD r q8).lo (rs.getD r q8).hi (kiv tot (.p r p)) (qW (grp S pl r p) mP,zP S rs pl tot mP r (zY S rs pl tot mP N r) p) K=(kiv tot (.p r p),zP S rs pl tot mP r (zY S rs pl tot mP N r) (p+1)):=by
  intro r p
  by_cases hc:r<R∧(rs.getD r q8).sum=true∧p<N
  ·obtain⟨hr,hs,hpN⟩:=hc
   obtain⟨i1,_,i3⟩:=zY_get h N R he r (by omega)
   have hm :∀p:Nat,∀i∈grp S pl r p,(zY S rs pl tot mP N r).getD i qM=mP.getD i qM:=fun p i hi=>i3 i fun r' hr' _ p' _ hi'=>by have:=(k7 hi hi').1;omega
   obtain⟨j1,_,j3⟩:=zP_get h (he r hr hs) i1 hm p
   have hag :∀i∈grp S pl r p,(zP S rs pl tot mP r (zY S rs pl tot mP N r) p).getD i qM=mP.getD i qM:=fun i hi=>by
    rw[j3 i fun p' hp' hi'=>by have:=(k7 hi hi').2;omega]
    exact hm p i hi
   obtain⟨K,h1,h2⟩:=rest_hits (Int.natCast_nonneg r) hp h (he r hr hs p) j1 hag
   exact⟨K,fun _ _ _=>⟨fun k hk=>by rw[←rrZ_zero];exact h1 k hk,by rw[←rrZ_zero];exact h2⟩⟩
  ·exact⟨0,fun h1 h2 h3=>absurd ⟨h1,h2,h3⟩ hc⟩
 exact⟨fun r p=>Classical.choose (hex r p),fun r p=>Classical.choose_spec (hex r p)⟩
end
theorem rg_eq {x:Lnt}{s:Lst}(hx:NetOK x)(h:LInv x s)(rw0:List Int) :∃Kf:Nat→Nat→Nat,
  RgOK x.n.S x.rs x.pl (rsL x.n.S x.pl x.m0 x.rs.length x.n.N.length) (rsL x.n.S x.pl (lP x s rw0) x.rs.length x.n.N.length) x.n.N.length Kf (lP x s rw0) ∧
  rgY x.n.S x.rs x.pl (rsL x.n.S x.pl x.m0 x.rs.length x.n.N.length) (rsL x.n.S x.pl (lP x s rw0) x.rs.length x.n.N.length) x.n.N.length Kf (lP x s rw0) x.rs.length=lR x s rw0:=by
 have hR:=h.rest hx rw0
 obtain⟨_,_,hres⟩:=lR_all hx h rw0
 have hb0:=m0_bounds hx
 have hbP :∀i∈zG x.pl,-255≤wAt (lP x s rw0) i∧wAt (lP x s rw0) i≤255:=fun i hi=>by
  have h1:=hR.inb i hi
  have h2:=hR.lo i hi
  have h3:=hR.hi i hi
  omega
 have he :∀r:Nat,r<x.rs.length→(x.rs.getD r q8).sum=true → ∀p:Nat,EntP x.n.S x.rs x.pl (lP x s rw0) (zE x.n.S x.pl (lP x s rw0) r p) r p (x.rs.getD r q8):=fun r hr hs p=>by
  have hg:=hx.rul r hr
  have e:x.rs.getD r q8=x.rs[r]:=by simp[List.getD_eq_getElem?_getD,hr]
  exact⟨rfl,rfl,by rw[Int.toNat_natCast],hs,by rw[e];exact hg.bounds.1,by rw[e];exact hg.bounds.2.1,by rw[e];exact hg.bounds.2.2⟩
 obtain⟨Kf,hK⟩:=looks hR x.n.N.length x.rs.length hx.lpl he
 refine⟨Kf,?_⟩
 have htt :∀r p:Nat,r<x.rs.length→(x.rs.getD r q8).sum=true→p<x.n.N.length→(rsL x.n.S x.pl x.m0 x.rs.length x.n.N.length r).getD p 0=kiv x.tot (.p r p):=fun r p hr hs hp=>by
  rw[rsL_sum hx hb0 hr hp]
  exact(rG x.n.S x.rs x.pl x.m0 r p (by rw[Int.toNat_natCast];exact hs) hb0 (by have:=hx.lpl;have:=hx.S1;omega)).symm
 have hff :∀r p:Nat,r<x.rs.length→p<x.n.N.length→(rsL x.n.S x.pl (lP x s rw0) x.rs.length x.n.N.length r).getD p 0=qW (grp x.n.S x.pl r p) (lP x s rw0):=fun r p hr hp=>rsL_sum hx hbP hr hp
 generalize rsL x.n.S x.pl x.m0 x.rs.length x.n.N.length=tt at htt ⊢
 generalize rsL x.n.S x.pl (lP x s rw0) x.rs.length x.n.N.length=F at hff ⊢
 have hPq :∀r:Nat,r<x.rs.length→(x.rs.getD r q8).sum=true → ∀p,p≤x.n.N.length→rgP x.n.S x.rs x.pl tt F Kf r (zY x.n.S x.rs x.pl x.tot (lP x s rw0) x.n.N.length r) p=zP x.n.S x.rs x.pl x.tot (lP x s rw0) r (zY x.n.S x.rs x.pl x.tot (lP x s rw0) x.n.N.length r) p:=by
  intro r hr hs p
  induction p with
  |zero=>intro _;rfl
  |succ p ih=>
   intro hp
   rw[rgP,ih (by omega)]
   unfold rrM
   rw[htt r p hr hs (by omega),hff r p hr (by omega),(hK r p hr hs (by omega)).2]
 have hYq :∀r:Nat,r≤x.rs.length→rgY x.n.S x.rs x.pl tt F x.n.N.length Kf (lP x s rw0) r=zY x.n.S x.rs x.pl x.tot (lP x s rw0) x.n.N.length r:=by
  intro r
  induction r with
  |zero=>intro _;rfl
  |succ r ih=>
   intro hr
   rw[rgY,zY,ih (by omega)]
   by_cases hs:(x.rs.getD r q8).sum=true
   ·rw[if_pos hs,if_pos hs];exact hPq r (by omega) hs _ (Nat.le_refl _)
   ·rw[if_neg hs,if_neg hs]
 constructor
 ·intro r hr hs p hp
  rw[hYq r (by omega),hPq r hr hs p (by omega),htt r p hr hs hp,hff r p hr hp]
  obtain⟨k1,k2⟩:=hK r p hr hs hp
  refine⟨k1,by rw[k2],fun hk=> ?_⟩
  apply Classical.byContradiction
  intro hS
  have hpl:=hx.lpl
  have hg:grp x.n.S x.pl r p=[]:=by
   have:=grp_len x.n.S x.pl r p
   exact List.eq_nil_of_length_eq_zero (by omega)
  have h0:=k1 0 hk
  have ht:=hR.tot r p (by rw[Int.toNat_natCast];exact hs)
  rw[hg]at h0 ht
  have e1:gcon [] (x.rs.getD ((r:Nat):Int).toNat q8).lo=0:=rfl
  have e2:gcon [] (x.rs.getD ((r:Nat):Int).toNat q8).hi=0:=rfl
  rw[e1,e2]at ht
  apply h0
  show(0:Int)=_
  omega
 ·rw[hYq _ (Nat.le_refl _)]
  obtain⟨y1,y2,y3⟩:=zY_get hR x.n.N.length x.rs.length he x.rs.length (Nat.le_refl _)
  refine getD_ext (y1.trans hres.len.symm) fun i=> ?_
  by_cases hi:i∈zG x.pl∧kU x.rs x.pl i=true
  ·obtain⟨hi1,hi2⟩:=hi
   have hi3:=plIdx_iff.1 hi1
   have hpl:=hx.lpl
   have hS:i<x.n.S.length:=by omega
   have epl:x.pl.getD i (-1)=x.pl[i]:=by simp[List.getD_eq_getElem?_getD,hi3.1]
   have eS:x.n.S.getD i qX=x.n.S[i]:=by simp[List.getD_eq_getElem?_getD,hS]
   have h1:=hx.p1 i hi3.1
   have h2:=hx.to0 i hS
   have h3:=hx.to1 i hS
   rw[hres.grp i hi1 hi2]
   have er:(((x.pl.getD i (-1)).toNat:Nat):Int)=x.pl.getD i (-1):=by omega
   have ep:(((x.n.S.getD i qX).to.toNat:Nat):Int)=(x.n.S.getD i qX).to:=by rw[eS];omega
   have:=y2 (x.pl.getD i (-1)).toNat (by rw[epl];omega) hi2 (x.n.S.getD i qX).to.toNat (by rw[eS];omega) i (grp_mem.2 ⟨hi1,er.symm,ep.symm⟩)
   rw[this]
   unfold zE
   rw[er,ep]
  ·have hn:i∉zG x.pl∨kU x.rs x.pl i=false:=by
    by_cases h1:i∈zG x.pl
    ·exact .inr (by cases hq:kU x.rs x.pl i;rfl;exact absurd ⟨h1,hq⟩ hi)
    ·exact .inl h1
   rw[hres.same i hn]
   refine y3 i fun r' hr' hs' p' _ hg=>hi ⟨(grp_mem.1 hg).1,?_⟩
   unfold kU
   rw[(grp_mem.1 hg).2.1,Int.toNat_natCast]
   exact hs'
end Go.Proofs.Ytnnlpdgnlccbjaa
namespace Go.Sx
set_option maxRecDepth 100000
set_option maxHeartbeats 2000000
open Go
def NilL (n:Nat):List SV→List SV→Prop
 | [],[]=>True
 |a::l,b::l'=>Nil1 n a b∧NilL n l l'
 |_,_=>False
def NilX (n:Nat)(o o':SObj):Prop:=o'=o∨(∃t cs cs',o = .cells cs t∧o' = .cells cs' t∧NilL n cs cs') ∨ ∃e m t cs cs',o = .row e m cs t∧o' = .row e m cs' t∧NilL n cs cs'
theorem Run.pG {c:Cx}{T T':List (Nat×SV)}{M M':List (Nat×SObj)}{n:Nat}{D:List Deferred}{todo:List Item}{R:Ending→World→Prop}(e:Nat)(te:TypeId)
  (hT :∀x∈T',∃v,look T x.1=some v∧Nil1 n v x.2) (hM :∀x∈M',x=(n,.row e 0 [] te) ∨ ∃o,look M x.1=some o∧NilX n o x.2)
  (h:Run c ⟨T',M',n+1,D,todo⟩ R):Run c ⟨T,M,n,D,todo⟩ R:=by
 refine⟨fun ρ a w hi=> ?_⟩
 have ha:Env.agree (· < n) ρ (ρ.bindV n (.slice none 0 0)):=Env.oC ρ _ (Nat.lt_irrefl n)
 have hn:((ρ.bindV n (.slice none 0 0)).h n)=(none,0,0):=by simp[Env.bindV,hOf]
 have hval :∀v v',SV.sc (· < n) v→Nil1 n v v'→v'.conc (ρ.bindV n (.slice none 0 0))=v.conc ρ∧v'.sc (· < n+1):=by
  rintro v v' hs (rfl|⟨rfl,rfl⟩)
  ·exact⟨jJ ha _ hs,SV.sc_mono (fun q hq=>by have hq:q<n:=hq;omega) _ hs⟩
  ·exact⟨by simp[SV.conc,hn],Nat.lt_succ_self n⟩
 have hne :∀kk o,look M' kk=some o→kk≠n → ∃o0,look M kk=some o0∧NilX n o0 o:=by
  intro kk o hk hkn
  rcases hM _ (qJ hk)with h|h
  ·simp only[Prod.mk.injEq]at h;exact absurd h.1 hkn
  ·exact h
 have hMn :∀o,look M n≠some o:=fun o ho=>Nat.lt_irrefl n (hi.wi.mem n o ho).1
 have heq :∀o,look M' n=some o→o = .row e 0 [] te:=by
  intro o hk
  rcases hM _ (qJ hk)with h|⟨o0,h,_⟩
  ·simp only[Prod.mk.injEq]at h;exact h.2
  ·exact absurd h (hMn o0)
 have hoccN :∀{o:SObj},o = .row e 0 [] te → ¬o.occ (ρ.bindV n (.slice none 0 0)) n:=by
  rintro o rfl hc
  have hc:((ρ.bindV n (.slice none 0 0)).h n).1≠none:=hc
  rw[hn]at hc;exact hc rfl
 have hocc :∀{kk:Nat} {o0 o:SObj},look M kk=some o0→NilX n o0 o→o.occ (ρ.bindV n (.slice none 0 0)) kk→o0.occ ρ kk:=by
  intro kk o0 o hk hno hc
  rcases hno with rfl|⟨t,cs,cs',rfl,rfl,_⟩|⟨e',m,t,cs,cs',rfl,rfl,_⟩
  ·exact(SObj.pC ha (hi.wi.mem kk _ hk).1).1 hc
  ·trivial
  ·have hc:((ρ.bindV n (.slice none 0 0)).h kk).1≠none:=hc
   show(ρ.h kk).1≠none
   rw[←(ha kk (hi.wi.mem kk _ hk).1).2.2];exact hc
 refine h.go (ρ.bindV n (.slice none 0 0)) a w ⟨hi.sz,?_,hi.df,⟨?_,?_,?_,?_,hi.wi.keep,hi.wi.size,hi.wi.os,hi.wi.tape,hi.wi.output⟩⟩
 ·intro t v ht
  obtain⟨v0,h1,h2⟩:=hT _ (qJ ht)
  obtain⟨g1,g2,g3⟩:=hi.tm t v0 h1
  obtain⟨k1,k2⟩:=hval v0 v g3 h2
  exact⟨g1,by rw[k1];exact g2,k2⟩
 ·intro kk o hk
  by_cases e':kk=n
  ·subst e'
   obtain rfl:=heq o hk
   exact⟨Nat.lt_succ_self _,trivial,by simp[Env.bindV],by simp,.inl ⟨hn,rfl⟩⟩
  ·obtain⟨o0,h1,h2⟩:=hne kk o hk e'
   obtain⟨g1,g2,g3⟩:=hi.wi.mem kk o0 h1
   have g1':kk<n:=g1
   have hcs :∀cs cs',SV.scs (· < n) cs→NilL n cs cs'→SV.concs (ρ.bindV n (.slice none 0 0)) cs'=SV.concs ρ cs∧SV.scs (· < n+1) cs'∧cs'.length=cs.length:=by
    intro cs
    induction cs with
    |nil=>intro cs' _ hl;cases cs' with
     |nil=>exact⟨rfl,trivial,rfl⟩
     |cons _ _=>exact hl.elim
    |cons x cs ih=>intro cs' hs hl;cases cs' with
     |nil=>exact hl.elim
     |cons y cs'=>
      obtain⟨i1,i2,i3⟩:=ih cs' hs.2 hl.2
      obtain⟨j1,j2⟩:=hval x y hs.1 hl.1
      exact⟨by show y.conc _::SV.concs _ cs'=x.conc ρ::SV.concs ρ cs;rw[i1,j1],⟨j2,i2⟩,by simp[i3]⟩
   rcases h2 with rfl|⟨t,cs,cs',rfl,rfl,hnl⟩|⟨e',m,t,cs,cs',rfl,rfl,hnl⟩
   ·exact⟨by show kk<n+1;omega,SObj.sc_mono (fun q (hq:q<n)=>Nat.lt_succ_of_lt hq) g2,SObj.pO ha g1 g2 (fun _=>rfl) g3⟩
   ·obtain⟨i1,i2,i3⟩:=hcs cs cs' g2 hnl
    refine⟨by show kk<n+1;omega,i2,?_⟩
    obtain⟨f1,f2⟩:=g3
    obtain⟨a1,a2,_⟩:=ha kk g1
    exact⟨by rw[a2,f1],by rw[a1,f2,i1]⟩
   ·obtain⟨i1,i2,i3⟩:=hcs cs cs' g2 hnl
    refine⟨by show kk<n+1;omega,i2,?_⟩
    obtain⟨f1,f2,f3⟩:=g3
    obtain⟨a1,a2,a3⟩:=ha kk g1
    refine⟨by rw[a2,f1],by rw[i3,f2],?_⟩
    rw[a3,a1,i1]
    exact f3
 ·intro i j o o' hi' hj' hij hc hc'
  by_cases e1:i=n
  ·subst e1;exact absurd hc (hoccN (heq o hi'))
  ·by_cases e2:j=n
   ·subst e2;exact absurd hc' (hoccN (heq o' hj'))
   ·obtain⟨o0,h1,h2⟩:=hne i o hi' e1
    obtain⟨o1,h3,h4⟩:=hne j o' hj' e2
    rw[(ha i (hi.wi.mem i o0 h1).1).1,(ha j (hi.wi.mem j o1 h3).1).1]
    exact hi.wi.dist i j o0 o1 h1 h3 hij (hocc h1 h2 hc) (hocc h3 h4 hc')
 ·intro i o hi' hc
  by_cases e1:i=n
  ·subst e1;exact absurd hc (hoccN (heq o hi'))
  ·obtain⟨o0,h1,h2⟩:=hne i o hi' e1
   rw[(ha i (hi.wi.mem i o0 h1).1).1]
   exact hi.wi.new i o0 h1 (hocc h1 h2 hc)
 ·intro p hp
  obtain⟨h1,h2⟩:=hi.wi.lid p hp
  have h1':p.1<n:=h1
  exact⟨by show p.1<n+1;omega,by rw[(ha p.1 h1).1,h2]⟩
def Val1 (v:Value)(n:Nat)(a b:SV):Prop:=b=a∨(a = .v v∧b = .opq n)
def ValL (v:Value)(n:Nat):List SV→List SV→Prop
 | [],[]=>True
 |a::l,b::l'=>Val1 v n a b∧ValL v n l l'
 |_,_=>False
theorem Run.readV {c:Cx}{T T':List (Nat×SV)}{M:List (Nat×SObj)}{n:Nat}{D:List Deferred}{todo:List Item}{R:Ending→World→Prop}(hL:c.L=[])(v:Value)(e m:Nat)(vs:List Value)(hv:RowsAt c.w0 v e m vs)
  (hT :∀x∈T',look T x.1=some x.2 ∨ ∃l l',look T x.1=some (.agg l)∧x.2 = .agg l'∧ValL v n l l')
  (h:Run c ⟨T',(n,.rwin e m vs)::M,n+1,D,todo⟩ R):Run c ⟨T,M,n,D,todo⟩ R:=by
 obtain⟨h1,p,cap,rfl,h2,h3⟩:=hv
 refine⟨fun ρ a w hi=> ?_⟩
 have hn :¬(n<n):=Nat.lt_irrefl n
 obtain⟨b,off,hb⟩ :∃b off,(m=0∨(p=some ⟨b,off,none⟩∧b<c.w0.heap.size ∧ ∀j x,vs[j]? = some x→c.w0.cell? ⟨b,off+j,none⟩=some x)):=by
  rcases h3 with h3|⟨blk,off,h4,h5,h6⟩
  ·exact⟨0,0,.inl h3⟩
  ·exact⟨blk,off,.inr ⟨h4,h5,h6⟩⟩
 have hag:=Env.oD ρ b off (p,m,cap) (S:=(· < n)) hn
 obtain⟨q1,q2,q3⟩:=Env.oE ρ n b off (p,m,cap)
 have hW':=hi.wi.addR hag (i:=n) (o:=.rwin e m vs) trivial (fun _ _ h=>h) (by
  simp only[SObj.holds,q1,q2,q3]
  refine⟨h1,trivial,h2,?_⟩
  rcases hb with hb|⟨hb0,hb1,hb2⟩
  ·exact .inl hb
  ·exact .inr ⟨hb0,hb1,fun p hp=>(by rw[hL]at hp;cases hp),hb2⟩)
 have hsm :∀q,q<n→q<n+1:=fun q hq=>by omega
 have hval :∀x y,SV.sc (· < n) x→Val1 (.slice p m cap) n x y→y.conc (ρ.bindW n b off (p,m,cap))=x.conc ρ∧y.sc (· < n+1):=by
  rintro x y hs (rfl|⟨rfl,rfl⟩)
  ·exact⟨jJ hag _ hs,SV.sc_mono (fun q hq=>hsm q hq) _ hs⟩
  ·exact⟨by simp only[SV.conc,q3],Nat.lt_succ_self n⟩
 have hvals :∀l l',SV.scs (· < n) l→ValL (.slice p m cap) n l l'→SV.concs (ρ.bindW n b off (p,m,cap)) l'=SV.concs ρ l∧SV.scs (· < n+1) l':=by
  intro l
  induction l with
  |nil=>intro l' _ hl;cases l' with
   |nil=>exact⟨rfl,trivial⟩
   |cons _ _=>exact hl.elim
  |cons x l ih=>intro l' hs hl;cases l' with
   |nil=>exact hl.elim
   |cons y l'=>
    obtain⟨i1,i2⟩:=ih l' hs.2 hl.2
    obtain⟨j1,j2⟩:=hval x y hs.1 hl.1
    exact⟨by show y.conc _::SV.concs _ l'=x.conc ρ::SV.concs ρ l;rw[i1,j1],⟨j2,i2⟩⟩
 refine h.go (ρ.bindW n b off (p,m,cap)) a w ⟨hi.sz,fun t u ht=> ?_,hi.df,?_⟩
 ·rcases hT _ (qJ ht)with k1|⟨l,l',k1,k2,k3⟩
  ·obtain⟨g1,g2,g3⟩:=hi.tm t u k1
   exact⟨g1,by rw[jJ hag _ g3];exact g2,SV.sc_mono (fun q hq=>hsm q hq) _ g3⟩
  ·simp only at k2
   subst k2
   obtain⟨g1,g2,g3⟩:=hi.tm t _ k1
   obtain⟨j1,j2⟩:=hvals l l' (by simpa[SV.sc]using g3) k3
   refine⟨g1,?_,by simpa[SV.sc]using j2⟩
   rw[g2]
   simp only[SV.conc,j1]
 ·rw[zB]
  exact hW'.mono fun q hq=>by have hq:q<n∨q=n:=hq;show q<n+1;omega
mutual
def scb (n:Nat):SV→Bool
 | .v _=>true
 | .ptr i _=>Nat.blt i n
 | .slc i _ _ _=>Nat.blt i n
 | .opq i=>Nat.blt i n
 | .mp i=>Nat.blt i n
 | .fn _ caps=>scbs n caps
 | .agg cs=>scbs n cs
 | .tup vs=>scbs n vs
def scbs (n:Nat):List SV→Bool
 | []=>true
 |a::l=>scb n a&&scbs n l
end
mutual
theorem scb_ok {n:Nat} :∀v:SV,scb n v=true→v.sc (· < n)
 | .v _,_=>trivial
 | .ptr i _,h=>by simpa[scb,SV.sc]using h
 | .slc i _ _ _,h=>by simpa[scb,SV.sc]using h
 | .opq i,h=>by simpa[scb,SV.sc]using h
 | .mp i,h=>by simpa[scb,SV.sc]using h
 | .fn _ caps,h=>by simp only[SV.sc];exact scbs_ok caps (by simpa[scb]using h)
 | .agg cs,h=>by simp only[SV.sc];exact scbs_ok cs (by simpa[scb]using h)
 | .tup vs,h=>by simp only[SV.sc];exact scbs_ok vs (by simpa[scb]using h)
theorem scbs_ok {n:Nat} :∀l:List SV,scbs n l=true→SV.scs (· < n) l
 | [],_=>trivial
 |a::l,h=>by
  simp only[scbs,Bool.and_eq_true]at h
  exact⟨scb_ok a h.1,scbs_ok l h.2⟩
end
theorem u4 {α β : Type}{f g : α → β} :∀{l:List α},l.map f=l.map g→AllP (fun x=>f x=g x) l
 | [],_=>trivial
 |a::l,h=>by
  simp only[List.map_cons,List.cons.injEq]at h
  exact⟨h.1,u4 h.2⟩
theorem wZ {α : Type}{p q : α → Prop} :∀{l:List α},AllP p l→AllP q l→AllP (fun x=>p x∧q x) l
 | [],_,_=>trivial
 |_::_,h,k=>⟨⟨h.1,k.1⟩,wZ h.2 k.2⟩
theorem allP_imp {α : Type}{p q : α → Prop}(hpq :∀x,p x→q x) :∀{l:List α},AllP p l→AllP q l
 | [],_=>trivial
 |_::_,h=>⟨hpq _ h.1,allP_imp hpq h.2⟩
theorem zM {α : Type}{p : α → Prop} :∀{l l':List α},AllP p l→AllP p l'→AllP p (l++l')
 | [],_,_,h=>h
 |_::_,_,h,k=>⟨h.1,zM h.2 k⟩
theorem wT {α : Type}{p : α → Prop} :∀{l:List α},(∀x∈l,p x)→AllP p l
 | [],_=>trivial
 |a::_,h=>⟨h a (by simp),wT fun x hx=>h x (by simp[hx])⟩
theorem allT_of {n:Nat}{T:List (Nat×SV)}(h:(T.all fun x=>scb n x.2)=true):AllP (fun x=>x.2.sc (· < n)) T:=
 wT fun x hx=>scb_ok x.2 (List.all_eq_true.1 h x hx)
def In (n:Nat)(M:List (Nat×SObj)):Prop:=AllP (fun x=>x.1<n∧x.2.sc (· < n)) M
section
variable {c:Cx} {T T':List (Nat×SV)} {M M':List (Nat×SObj)} {n n':Nat} {D:List Deferred} {todo:List Item} {R:Ending→World→Prop}
theorem Run.pN (h:Run c ⟨T',M',n',D,todo⟩ R)(hT:T'.map (fun x=>look T x.1)=T'.map fun x=>some x.2)(hTs:(T'.all fun x=>scb n' x.2)=true)
  (hM:M'.map (fun x=>look M x.1)=M'.map fun x=>some x.2) (hMs:In n' M') (hL :∀p∈c.L,p.1<n'):Run c ⟨T,M,n,D,todo⟩ R:=
 Run.r9 n' (wZ (u4 hT) (allT_of hTs)) (wZ (u4 hM) hMs) hL h
theorem Run.trimKQ (r:Nat→Nat)(h:Run c ⟨T',M',n',D,todo⟩ R)(hinj :∀i,i<n' → ∀j,j<n'→i≠j→r i≠r j)(hT:T'.map (fun x=>look T x.1)=T'.map fun x=>some (x.2.ren r))(hTs:(T'.all fun x=>scb n' x.2)=true)
  (hM:AllP (fun x=>look M (r x.1)=some (x.2.ren r)) M') (hMs:In n' M') (hL :∀p∈c.L,r p.1=p.1∧p.1<n'):Run c ⟨T,M,n,D,todo⟩ R:=
 Run.pF r n' hinj (wZ (u4 hT) (allT_of hTs)) (wZ hM hMs) hL h
theorem Run.pT {T0:List (Nat×SV)}{M0:List (Nat×SObj)}{n0:Nat}{T:Nat→List (Nat×SV)}{M:Nat→List (Nat×SObj)}(n:Nat)(J:Nat→Prop)(N:Nat)
  (hT:(T 0).map (fun x=>look T0 x.1)=(T 0).map fun x=>some x.2) (hTs:((T 0).all fun x=>scb n x.2)=true) (hM:(M 0).map (fun x=>look M0 x.1)=(M 0).map fun x=>some x.2) (hMs:In n (M 0)) (hL :∀p∈c.L,p.1<n) (h0:J 0)
  (hstep :∀i,i<N→J i→(J (i+1)→Run c ⟨T (i+1),M (i+1),n,D,todo⟩ R)→Run c ⟨T i,M i,n,D,todo⟩ R) (hend:J N→Run c ⟨T N,M N,n,D,todo⟩ R):Run c ⟨T0,M0,n0,D,todo⟩ R:=
 Run.pN (Run.pE J N h0 hstep hend) hT hTs hM hMs hL
theorem Run.pI {ops:Array Oper}{i:Nat}{r:List Nat}{k:List Item}{o:Oper}{f:Operand}{args:Array Operand}{ts:Array TypeId}
  {fv:SV} {g:FuncId} {caps2 vs:List SV} {Mc:List (Nat×SObj)} {B:Nat} {is:List Nat} {v:SV} {M1:List (Nat×SObj)} {n1:Nat} (hspec:BSpec c.P g vs Mc B is v M1 n1) (hg:jB c.P g)
  (ho:get ops.toList i=some o) (hop:o.op = .call { callee:=.value f,args:=args,argTypes:=ts }) (hw:jN ops.toList (look T) o=some true) (hd:okD c.fn.ntmps o.dst=true)
  (hf:ev (look T) f=some fv) (hfv:jO fv=some (g,caps2)) (hc2:caps2=[]) (vs2:List SV) (hvs:evs (look T) args.toList=some vs2) (rn:Nat→Nat) (hvr:SV.rens rn vs=vs2) (hr :∀i,i<B→rn i<n) (keys:List Nat) (hkeys:Mc.map (·.1)=keys) (hinj :∀i∈keys,∀j∈keys,i≠j→rn i≠rn j) (hB1:Nat.ble B n1=true)
  (hA:In B Mc) (hW:(Mc.all fun x=>x.2.wnd != is.contains x.1)=true) (hC:AllP (fun x=> ∃o,look M (rn x.1)=some o∧Conv o (x.2.ren rn)) Mc) (his :∀i∈is,i∈keys)
  (v2:SV) (News Keep:List (Nat×SObj)) (n2:Nat) (hv2:v2=v.ren (shR rn B n)) (hn2:n2=n+(n1-B)) (hN:AllP (fun x=> ∃i o,shR rn B n i=x.1∧look M1 i=some o∧x.2=o.ren (shR rn B n)∧o.wnd=false) News)
  (hK1:Keep.map (fun x=>look M x.1)=Keep.map fun x=>some x.2) (hK2:(Keep.all fun x=> !((is.map rn).contains x.1))=true)
  (h:Run c ⟨j5 T o.dst v2,News++Keep,n2,D,.inRegion ops r::k⟩ R):Run c ⟨T,M,n,D,.inRegion ops (i::r)::k⟩ R:=by
 subst hc2
 have hAm:=AllP.mem hA
 refine Run.callA (caps:=[]) (caps2:=[]) (vs:=vs) (by rw[List.append_nil];exact hspec) hg ho hop hw hd hf hfv vs2 hvs rn (by rw[List.append_nil,List.append_nil];exact hvr) hr keys hkeys hinj (Nat.le_of_ble_eq_true hB1)
  (wT fun x hx=> ?_) (fun i hi=> ?_) v2 (News++Keep) n2 hv2 hn2 (zM (allP_imp (fun x hx=>.inr hx) hN) (wT fun x hx=>.inl ⟨(u4 hK1).mem x hx,fun i hi he=> ?_⟩)) h
 ·obtain⟨h1,h2⟩:=hAm x hx
  have h3:=List.all_eq_true.1 hW x hx
  refine⟨h1,h2,hC.mem x hx,?_,fun hw hm=> ?_⟩
  ·cases hw:x.2.wnd
   ·right
    rw[hw]at h3
    simpa using h3
   ·exact .inl rfl
  ·rw[hw]at h3
   simp at h3
   exact h3 hm
 ·have hm:=his i hi
  rw[←hkeys]at hm
  obtain⟨x,hx,rfl⟩:=List.mem_map.1 hm
  refine⟨(hAm x hx).1,?_⟩
  exact uI hx
 ·have h3:=List.all_eq_true.1 hK2 x hx
  simp at h3
  exact h3 i hi he
end
end Go.Sx
namespace Go.Proofs.Ytnnlpdgnlccbjaa
open Go.Sx
set_option maxRecDepth 100000
set_option maxHeartbeats 2000000
def tt0 (x:Lnt):Nat→List Int:=rsL x.n.S x.pl x.m0 x.rs.length x.n.N.length
theorem tt0_len (x:Lnt)(k:Nat):(tt0 x k).length=cN x.rs.length x.n.N.length k:=u7 ..
def rS32 (x:Lnt)(sn:Nat→List Int):List (Nat×SObj):=(9,.rwin 1 (sn 0).length (qB (sn 0)))::(10,.rwin 1 (sn 1).length (qB (sn 1)))::(11,.rwin 1 (sn 2).length (qB (sn 2)))::(12,.rwin 1 (sn 3).length (qB (sn 3)))::(13,.rwin 1 (sn 4).length (qB (sn 4)))::(14,.rwin 1 (sn 5).length (qB (sn 5)))::(15,.rwin 1 (sn 6).length (qB (sn 6)))::(16,.rwin 1 (sn 7).length (qB (sn 7)))::(17,.rwin 1 (sn 8).length (qB (sn 8)))::(18,.rwin 1 (sn 9).length (qB (sn 9)))::(19,.rwin 1 (sn 10).length (qB (sn 10)))::(20,.rwin 1 (sn 11).length (qB (sn 11)))::(21,.rwin 1 (sn 12).length (qB (sn 12)))::(22,.rwin 1 (sn 13).length (qB (sn 13)))::(23,.rwin 1 (sn 14).length (qB (sn 14)))::(24,.rwin 1 (sn 15).length (qB (sn 15)))::(25,.rwin 1 (cN x.rs.length x.n.N.length 0) (qB (tt0 x 0)))::(26,.rwin 1 (cN x.rs.length x.n.N.length 1) (qB (tt0 x 1)))::(27,.rwin 1 (cN x.rs.length x.n.N.length 2) (qB (tt0 x 2)))::(28,.rwin 1 (cN x.rs.length x.n.N.length 3) (qB (tt0 x 3)))::(29,.rwin 1 (cN x.rs.length x.n.N.length 4) (qB (tt0 x 4)))::(30,.rwin 1 (cN x.rs.length x.n.N.length 5) (qB (tt0 x 5)))::(31,.rwin 1 (cN x.rs.length x.n.N.length 6) (qB (tt0 x 6)))::(32,.rwin 1 (cN x.rs.length x.n.N.length 7) (qB (tt0 x 7)))::(33,.rwin 1 (cN x.rs.length x.n.N.length 8) (qB (tt0 x 8)))::(34,.rwin 1 (cN x.rs.length x.n.N.length 9) (qB (tt0 x 9)))::(35,.rwin 1 (cN x.rs.length x.n.N.length 10) (qB (tt0 x 10)))::(36,.rwin 1 (cN x.rs.length x.n.N.length 11) (qB (tt0 x 11)))::(37,.rwin 1 (cN x.rs.length x.n.N.length 12) (qB (tt0 x 12)))::(38,.rwin 1 (cN x.rs.length x.n.N.length 13) (qB (tt0 x 13)))::(39,.rwin 1 (cN x.rs.length x.n.N.length 14) (qB (tt0 x 14)))::(40,.rwin 1 (cN x.rs.length x.n.N.length 15) (qB (tt0 x 15)))::[]
def rM (x:Lnt)(s:Lst)(sn:Nat→List Int)(mid:List (Nat×SObj)):List (Nat×SObj):=
 (0,.cells (zS (ii s.tick) x.n.inp) 108)::(1,.rwin 8 x.n.N.length (x.n.N.flatMap Prm.vals))::(2,.rwin 4 x.n.S.length (x.n.S.flatMap Syn.vals))::(3,.row 2 x.n.N.length (s.st.flatMap Ste.cells) 139)::(4,.rwin 10 x.rs.length (x.rs.flatMap Rul.vals))::(5,.rwin 1 x.pl.length (qB x.pl))::(6,.row 4 x.n.S.length (s.m.flatMap Mrk.cells) 141)::(7,.row 1 x.rs.length (zT 25 x.rs.length) 27)::(8,.row 1 16 [.opq 9,.opq 10,.opq 11,.opq 12,.opq 13,.opq 14,.opq 15,.opq 16,.opq 17,.opq 18,.opq 19,.opq 20,.opq 21,.opq 22,.opq 23,.opq 24] 27)::(mid++rS32 x sn)
theorem rS32_in (x:Lnt)(sn:Nat→List Int){n:Nat}(hn:43≤n):In n (rS32 x sn):=(by repeat first|exact trivial|refine⟨⟨by omega,Os.h _⟩,?_⟩)
theorem rM_in {x:Lnt}(hR:x.rs.length≤16)(s:Lst)(sn:Nat→List Int){mid:List (Nat×SObj)}{n:Nat}(hn:43≤n)(hm:In n mid):In n (rM x s sn mid):=
 ⟨⟨by omega,by simp[zS,SObj.sc,SV.scs,SV.sc];omega⟩,⟨by omega,Os.h _⟩,⟨by omega,Os.h _⟩,⟨by omega,Os.h _⟩,⟨by omega,Os.h _⟩,⟨by omega,Os.h _⟩,⟨by omega,Os.h _⟩,⟨by omega,qO (by omega)⟩,⟨by omega,by simp[SObj.sc,SV.scs,SV.sc];omega⟩,zM hm (rS32_in x sn hn)⟩
def rM1 (x:Lnt)(s:Lst)(out sn0:List Int):List (Nat×SObj):=
 [(43,.row 1 out.length (out.map fun x=>ii x) 3),(44,.row 1 sn0.length (sn0.map fun x=>ii x) 3),(45,.row 1 16 [.opq 44,.opq 9,.opq 10,.opq 11,.opq 12,.opq 13,.opq 14,.opq 15,.opq 16,.opq 17,.opq 18,.opq 19,.opq 20,.opq 21,.opq 22,.opq 23] 27),(0,.cells (xY (ii s.tick) x.n.inp 45) 108),(3,.row 2 x.n.N.length (s.st.flatMap Ste.cells) 139),(6,.row 4 x.n.S.length (s.m.flatMap Mrk.cells) 141),(7,.row 1 x.rs.length (zT 25 x.rs.length) 27)]
structure SnOK (s:Lst) (sn:Nat→List Int):Prop where
 rel:SnRel s sn
 len :∀k,(sn k).length≤100000
theorem SnOK.start (x:Lnt):SnOK x.new fun _=>[]:=⟨SnRel.start x,fun _=>by simp⟩
theorem rgo_spec {x:Lnt}{s:Lst}{sn:Nat→List Int}(hx:NetOK x)(h:LInv x s)(hs:SnOK s sn)(ht:s.tick<4611686018427387904)(ins rw0:List Int)(hin:ins.length≤90000)(hrw:rw0.length=x.rs.length) :
  BSpec Try.prog 56 [.ptr 0 0,.opq 41,.opq 42] (rM x s sn [(41,.rwin 1 ins.length (qB ins)),(42,.rwin 1 rw0.length (qB rw0))]) 43 [0,3,6,7,8] (.opq 43) (rM1 x (lN x s ins rw0) (zQ x s) (snN sn ins (zQ x s) 0)) 46∧SnOK (lN x s ins rw0) (snN sn ins (zQ x s)):=by
 have hA:=hs.rel.ra hx
 obtain⟨Z,hZ⟩ :∃Z,rnL x.n.N (lA x s).2 s.st=Z:=⟨_,rfl⟩
 obtain⟨z1,z2,z3,z4,_⟩:=rnY_eq (sums:=(lA x s).2) h.lst h.vok x.n.N.length (Nat.le_refl _)
 have hZ':rnY yA yM x.n.N (lA x s).2 s.st x.n.N.length=Z:=hZ
 rw[hZ']at z1 z2 z3
 have z1:Z.1=(lB x s).1:=z1
 have z2:Z.2.2=zQ x s:=z2
 have hP:=rp_eq hx h rw0 Z.2.1 z3
 obtain⟨Kf,k1,k2⟩:=rg_eq hx h rw0
 have hsp:=rGo_spec s.tick x.n.inp x.n.N x.n.S s.st x.rs x.pl s.m sn (tt0 x) ins rw0 hx.N1 hx.N2 hx.S1 hx.rl hx.lpl h.lm h.lst hrw hs.len (by omega) hx.p1 hx.to0 hx.to1 hx.d0 hx.d1 (fun i hi=>(hx.rul i hi).shift) (lA x s) hA Z hZ (lP x s rw0) hP Kf (tt0_len x) k1
 rw[z1,z2]at hsp
 have k2':rgY x.n.S x.rs x.pl (tt0 x) (rsL x.n.S x.pl (lP x s rw0) x.rs.length x.n.N.length) x.n.N.length Kf (lP x s rw0) x.rs.length=lR x s rw0:=k2
 rw[k2']at hsp
 have h0:=h.t0
 refine⟨hsp,⟨hs.rel.next h0 ht ins rw0 (zQ x s) z4,fun k=> ?_⟩⟩
 cases k with
 |zero=>
  have a1:=sL_len ins (zQ x s) ins.length
  have a2:=tY x s
  have a3:=hx.N2
  show(sL ins (zQ x s) ins.length).length≤_
  omega
 |succ k=>exact hs.len k
end Go.Proofs.Ytnnlpdgnlccbjaa
