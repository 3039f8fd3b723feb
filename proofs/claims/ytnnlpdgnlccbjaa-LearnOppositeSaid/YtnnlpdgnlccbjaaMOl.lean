/-
  Laws of the small executor, and walks of the functions that the statement reaches (part 12 of several, put together out of smaller texts).
  The conditions stand with each law.
-/
import Derived.ProofKit
import Derived.OpenShut
import Derived.ChangeOld
import Derived.Below
import Derived.Lib.SmallJoins
import Derived.Test.YtnnlpdgnlccbjaaMOk
namespace Go.Proofs.Ytnnlpdgnlccbjaa
open Go.Sx
open Go.ChangeShapes Go.WideShapes Go.ChangeAt Go.RowKit Go.Deep Go.Joins
set_option maxRecDepth 100000
theorem Ext.below {w w':World} (h:Ext w w'):Below w.heap.size w w':=⟨h.os,h.tape,h.output,h.size,h.keep⟩
theorem laidOut:laidOutB Try.prog=true:=by kernel_rfl
section
variable {H:Type} {enc:TypeId × Value→H} {W:World} {base b0:Nat} {spare:Nat→Bool} {held:Bool} {r:Reach} {v:Value} {d:DataW H} {pl:List MemPlace}
theorem el_prm {n:Nat} {cs:List Value} {y:DataW H × List MemPlace} (h:DataW.trod enc Try.prog W base spare held n 60 cs=some y) : ∃ p:Prm,cs=p.vals:=by
 obtain ⟨xs,m,_,hx,hlen,hxl,hg⟩:=DataW.trod_struct Try.underlying60 h
 have hC:Try.prog.cellsOf 60=8:=by kernel_rfl
 rw [hC] at hlen
 clear hx
 match cs,hlen with
 | [c0,c1,c2,c3,c4,c5,c6,c7],_ =>
  match xs,hxl with
  | [y0,y1,y2,y3,y4,y5,y6,y7],_ =>
   have h1:Try.prog.cellsOf 3=1:=by kernel_rfl
   have g0:DataW.trod enc Try.prog W base spare held m 3 [c0]=some y0:=by simpa [h1] using hg 0 _ rfl
   have g1:DataW.trod enc Try.prog W base spare held m 3 [c1]=some y1:=by simpa [h1] using hg 1 _ rfl
   have g2:DataW.trod enc Try.prog W base spare held m 3 [c2]=some y2:=by simpa [h1] using hg 2 _ rfl
   have g3:DataW.trod enc Try.prog W base spare held m 3 [c3]=some y3:=by simpa [h1] using hg 3 _ rfl
   have g4:DataW.trod enc Try.prog W base spare held m 3 [c4]=some y4:=by simpa [h1] using hg 4 _ rfl
   have g5:DataW.trod enc Try.prog W base spare held m 3 [c5]=some y5:=by simpa [h1] using hg 5 _ rfl
   have g6:DataW.trod enc Try.prog W base spare held m 3 [c6]=some y6:=by simpa [h1] using hg 6 _ rfl
   have g7:DataW.trod enc Try.prog W base spare held m 3 [c7]=some y7:=by simpa [h1] using hg 7 _ rfl
   obtain ⟨n0,e0,_,w0⟩:=DataW.trod_int Try.underlying3 g0
   obtain ⟨n1,e1,_,w1⟩:=DataW.trod_int Try.underlying3 g1
   obtain ⟨n2,e2,_,w2⟩:=DataW.trod_int Try.underlying3 g2
   obtain ⟨n3,e3,_,w3⟩:=DataW.trod_int Try.underlying3 g3
   obtain ⟨n4,e4,_,w4⟩:=DataW.trod_int Try.underlying3 g4
   obtain ⟨n5,e5,_,w5⟩:=DataW.trod_int Try.underlying3 g5
   obtain ⟨n6,e6,_,w6⟩:=DataW.trod_int Try.underlying3 g6
   obtain ⟨n7,e7,_,w7⟩:=DataW.trod_int Try.underlying3 g7
   simp only [List.cons.injEq,and_true] at e0 e1 e2 e3 e4 e5 e6 e7
   subst e0 e1 e2 e3 e4 e5 e6 e7
   exact ⟨⟨n0,n1,n2,n3,n4,n5,n6,n7⟩,rfl⟩
theorem el_syn {n:Nat} {cs:List Value} {y:DataW H × List MemPlace} (h:DataW.trod enc Try.prog W base spare held n 55 cs=some y) : ∃ p:Syn,cs=p.vals:=by
 obtain ⟨xs,m,_,hx,hlen,hxl,hg⟩:=DataW.trod_struct Try.underlying55 h
 have hC:Try.prog.cellsOf 55=4:=by kernel_rfl
 rw [hC] at hlen
 clear hx
 match cs,hlen with
 | [c0,c1,c2,c3],_ =>
  match xs,hxl with
  | [y0,y1,y2,y3],_ =>
   have h1:Try.prog.cellsOf 3=1:=by kernel_rfl
   have g0:DataW.trod enc Try.prog W base spare held m 3 [c0]=some y0:=by simpa [h1] using hg 0 _ rfl
   have g1:DataW.trod enc Try.prog W base spare held m 3 [c1]=some y1:=by simpa [h1] using hg 1 _ rfl
   have g2:DataW.trod enc Try.prog W base spare held m 3 [c2]=some y2:=by simpa [h1] using hg 2 _ rfl
   have g3:DataW.trod enc Try.prog W base spare held m 3 [c3]=some y3:=by simpa [h1] using hg 3 _ rfl
   obtain ⟨n0,e0,_,w0⟩:=DataW.trod_int Try.underlying3 g0
   obtain ⟨n1,e1,_,w1⟩:=DataW.trod_int Try.underlying3 g1
   obtain ⟨n2,e2,_,w2⟩:=DataW.trod_int Try.underlying3 g2
   obtain ⟨n3,e3,_,w3⟩:=DataW.trod_int Try.underlying3 g3
   simp only [List.cons.injEq,and_true] at e0 e1 e2 e3
   subst e0 e1 e2 e3
   exact ⟨⟨n0,n1,n2,n3⟩,rfl⟩
theorem el_rul {n:Nat} {cs:List Value} {y:DataW H × List MemPlace} (h:DataW.trod enc Try.prog W base spare held n 36 cs=some y) : ∃ p:Rul,cs=p.vals:=by
 obtain ⟨xs,m,_,hx,hlen,hxl,hg⟩:=DataW.trod_struct Try.underlying36 h
 have hC:Try.prog.cellsOf 36=10:=by kernel_rfl
 rw [hC] at hlen
 clear hx
 match cs,hlen with
 | [c0,c1,c2,c3,c4,c5,c6,c7,c8,c9],_ =>
  match xs,hxl with
  | [y0,y1,y2,y3,y4,y5,y6,y7,y8,y9],_ =>
   have h1:Try.prog.cellsOf 3=1:=by kernel_rfl
   have h2:Try.prog.cellsOf 4=1:=by kernel_rfl
   have g0:DataW.trod enc Try.prog W base spare held m 3 [c0]=some y0:=by simpa [h1] using hg 0 _ rfl
   have g1:DataW.trod enc Try.prog W base spare held m 3 [c1]=some y1:=by simpa [h1] using hg 1 _ rfl
   have g2:DataW.trod enc Try.prog W base spare held m 3 [c2]=some y2:=by simpa [h1] using hg 2 _ rfl
   have g3:DataW.trod enc Try.prog W base spare held m 3 [c3]=some y3:=by simpa [h1] using hg 3 _ rfl
   have g4:DataW.trod enc Try.prog W base spare held m 3 [c4]=some y4:=by simpa [h1] using hg 4 _ rfl
   have g5:DataW.trod enc Try.prog W base spare held m 3 [c5]=some y5:=by simpa [h1] using hg 5 _ rfl
   have g6:DataW.trod enc Try.prog W base spare held m 3 [c6]=some y6:=by simpa [h1] using hg 6 _ rfl
   have g7:DataW.trod enc Try.prog W base spare held m 3 [c7]=some y7:=by simpa [h1] using hg 7 _ rfl
   have g8:DataW.trod enc Try.prog W base spare held m 3 [c8]=some y8:=by simpa [h1] using hg 8 _ rfl
   have g9:DataW.trod enc Try.prog W base spare held m 4 [c9]=some y9:=by simpa [h2] using hg 9 _ rfl
   obtain ⟨n0,e0,_,w0⟩:=DataW.trod_int Try.underlying3 g0
   obtain ⟨n1,e1,_,w1⟩:=DataW.trod_int Try.underlying3 g1
   obtain ⟨n2,e2,_,w2⟩:=DataW.trod_int Try.underlying3 g2
   obtain ⟨n3,e3,_,w3⟩:=DataW.trod_int Try.underlying3 g3
   obtain ⟨n4,e4,_,w4⟩:=DataW.trod_int Try.underlying3 g4
   obtain ⟨n5,e5,_,w5⟩:=DataW.trod_int Try.underlying3 g5
   obtain ⟨n6,e6,_,w6⟩:=DataW.trod_int Try.underlying3 g6
   obtain ⟨n7,e7,_,w7⟩:=DataW.trod_int Try.underlying3 g7
   obtain ⟨n8,e8,_,w8⟩:=DataW.trod_int Try.underlying3 g8
   obtain ⟨n9,e9,_⟩:=DataW.trod_bool Try.underlying4 g9
   simp only [List.cons.injEq,and_true] at e0 e1 e2 e3 e4 e5 e6 e7 e8 e9
   subst e0 e1 e2 e3 e4 e5 e6 e7 e8 e9
   exact ⟨⟨n0,n1,n2,n3,n4,n5,n6,n7,n8,n9⟩,rfl⟩
theorem el_evt {n:Nat} {cs:List Value} {y:DataW H × List MemPlace} (h:DataW.trod enc Try.prog W base spare held n 62 cs=some y) : ∃ p:Evt,cs=p.vals:=by
 obtain ⟨xs,m,_,hx,hlen,hxl,hg⟩:=DataW.trod_struct Try.underlying62 h
 have hC:Try.prog.cellsOf 62=2:=by kernel_rfl
 rw [hC] at hlen
 clear hx
 match cs,hlen with
 | [c0,c1],_ =>
  match xs,hxl with
  | [y0,y1],_ =>
   have h1:Try.prog.cellsOf 3=1:=by kernel_rfl
   have g0:DataW.trod enc Try.prog W base spare held m 3 [c0]=some y0:=by simpa [h1] using hg 0 _ rfl
   have g1:DataW.trod enc Try.prog W base spare held m 3 [c1]=some y1:=by simpa [h1] using hg 1 _ rfl
   obtain ⟨n0,e0,_,w0⟩:=DataW.trod_int Try.underlying3 g0
   obtain ⟨n1,e1,_,w1⟩:=DataW.trod_int Try.underlying3 g1
   simp only [List.cons.injEq,and_true] at e0 e1
   subst e0 e1
   exact ⟨⟨n0,n1⟩,rfl⟩
theorem el_prz {n:Nat} {cs:List Value} {y:DataW H × List MemPlace} (h:DataW.trod enc Try.prog W base spare held n 49 cs=some y) : ∃ p:Prz,cs=p.vals:=by
 obtain ⟨xs,m,_,hx,hlen,hxl,hg⟩:=DataW.trod_struct Try.underlying49 h
 have hC:Try.prog.cellsOf 49=3:=by kernel_rfl
 rw [hC] at hlen
 clear hx
 match cs,hlen with
 | [c0,c1,c2],_ =>
  match xs,hxl with
  | [y0,y1,y2],_ =>
   have h1:Try.prog.cellsOf 3=1:=by kernel_rfl
   have g0:DataW.trod enc Try.prog W base spare held m 3 [c0]=some y0:=by simpa [h1] using hg 0 _ rfl
   have g1:DataW.trod enc Try.prog W base spare held m 3 [c1]=some y1:=by simpa [h1] using hg 1 _ rfl
   have g2:DataW.trod enc Try.prog W base spare held m 3 [c2]=some y2:=by simpa [h1] using hg 2 _ rfl
   obtain ⟨n0,e0,_,w0⟩:=DataW.trod_int Try.underlying3 g0
   obtain ⟨n1,e1,_,w1⟩:=DataW.trod_int Try.underlying3 g1
   obtain ⟨n2,e2,_,w2⟩:=DataW.trod_int Try.underlying3 g2
   simp only [List.cons.injEq,and_true] at e0 e1 e2
   subst e0 e1 e2
   exact ⟨⟨n0,n1,n2⟩,rfl⟩
theorem el_rows {α : Type} {t e:TypeId} {k:Nat} (vals : α → List Value) (hvl : ∀ a,(vals a).length=k) (hk:0<k) (ht:Try.prog.underlying t=some (.slice e)) (hc:Try.prog.cellsOf e=k)
  (hel : ∀ {n:Nat} {cs:List Value} {y:DataW H × List MemPlace},DataW.trod enc Try.prog W base spare held n e cs=some y → ∃ p : α,cs=vals p) {n:Nat} {cs:List Value} {y:DataW H × List MemPlace} (h:DataW.trod enc Try.prog W base spare held n t cs=some y) :
  ∃ (v:Value) (l:List α),cs=[v]∧RowsAt W v k l.length (l.flatMap vals)∧l.length≤maxLen:=by
 rcases DataW.trod_slice ht h with ⟨h0,_⟩ | ⟨a,len,cap,elems,rest,m,_,rfl,_,hb,hl,hm,hlen,hel2,hsp,hns⟩
 ·exact ⟨_,[],h0,⟨by simp,none,0,rfl,Nat.le_refl _,.inl rfl⟩,Nat.zero_le _⟩
 have each : ∀ i:Fin len,∃ p : α,W.cells? base (a.add (i.1*k)) k=some (vals p):=by
  intro i
  have h1:=hel2 i.1 i.2
  have h2:elems[i.1]? = some (elems[i.1]'(by omega)):=List.getElem?_eq_getElem _
  rw [h2,hc,Option.bind_eq_some_iff] at h1
  obtain ⟨cs',h3,h4⟩:=h1
  obtain ⟨p,hp⟩:=hel h4
  exact ⟨p,by rw [h3,hp]⟩
 let l:List α := List.ofFn fun i:Fin len=>Classical.choose (each i)
 have hll:l.length=len:=List.length_ofFn
 have hlg : ∀ i (hi:i<len),W.cells? base (a.add (i*k)) k=some (vals (l[i]'(by rw [hll]; exact hi))):=fun i hi=>by
  have:=Classical.choose_spec (each ⟨i,hi⟩)
  simp only [l,List.getElem_ofFn]
  exact this
 refine ⟨_,l,rfl,⟨flat_length hvl l,some a,cap,by rw [hll],by omega,?_⟩,by omega⟩
 by_cases h0:len=0
 ·exact .inl (by omega)
 obtain ⟨blk,off,spot⟩:=a
 have hc0:W.cell? ⟨blk,off,spot⟩≠none:=by
  have h1:=(World.cells?_some (hlg 0 (by omega))).2.2 0 hk
  have h2:(vals (l[0]'(by omega)))[0]? = some ((vals (l[0]'(by omega)))[0]'(by rw [hvl]; exact hk)):=List.getElem?_eq_getElem _
  rw [h2] at h1
  simp [Addr.add] at h1
  rw [h1]; simp
 have hspot:spot=none:=by
  cases hcc:W.cell? ⟨blk,off,spot⟩ with
  | none=>exact absurd hcc hc0
  | some x=>exact World.cell?_spot hcc
 subst hspot
 have hcell : ∀ j x,(l.flatMap vals)[j]? = some x→W.cell? ⟨blk,off+j,none⟩=some x:=by
  intro j x hj
  have hjl:j<len*k:=by
   have:=(List.getElem?_eq_some_iff.1 hj).1
   rw [flat_length hvl,hll] at this
   exact this
  have hq:j / k<len:=Nat.div_lt_of_lt_mul (by rw [Nat.mul_comm]; exact hjl)
  have hr:=Nat.mod_lt j hk
  have hdm:j / k*k+j % k=j:=by rw [Nat.mul_comm]; exact Nat.div_add_mod j k
  have h1:=(World.cells?_some (hlg (j / k) hq)).2.2 (j % k) hr
  have h2:=get_flat (f:=vals) hvl (l:=l) (i:=j / k) (k:=j % k) (by omega) hr
  rw [get_eq,get_eq,hdm,hj] at h2
  rw [← h2] at h1
  rw [addr_add,addr_add] at h1
  rw [show off+j=off+j / k*k+j % k by omega]
  exact h1
 refine .inr ⟨blk,off,rfl,?_,hcell⟩
 have h2:(l.flatMap vals)[0]? = some ((l.flatMap vals)[0]'(by rw [flat_length hvl,hll]; exact Nat.mul_pos (by omega) hk)):=List.getElem?_eq_getElem _
 have h3:=hcell 0 _ h2
 unfold World.cell? at h3
 rcases Nat.lt_or_ge blk W.heap.size with hlt | hge
 ·exact hlt
 ·simp [Array.getElem?_eq_none hge] at h3
theorem el_int {n:Nat} {cs:List Value} {y:DataW H × List MemPlace} (h:DataW.trod enc Try.prog W base spare held n 3 cs=some y) : ∃ p:Int,cs=[.int .i64 p]:=by
 obtain ⟨n0,e0,_,w0⟩:=DataW.trod_int Try.underlying3 h
 exact ⟨n0,e0⟩
theorem ints_flat (l:List Int):l.flatMap (fun x=>[Value.int .i64 x])=ints l:=by
 induction l with
 | nil=>rfl
 | cons a l ih=>rw [List.flatMap_cons,ih]; rfl
theorem el_introw {n:Nat} {cs:List Value} {y:DataW H × List MemPlace} (h:DataW.trod enc Try.prog W base spare held n 27 cs=some y) : ∃ (v:Value) (l:List Int),cs=[v]∧RowsAt W v 1 l.length (ints l)∧l.length≤maxLen:=by
 obtain ⟨v,l,h1,h2,h3⟩:=el_rows (fun x:Int=>[Value.int .i64 x]) (fun _=>rfl) (by decide) Try.underlying27 (by kernel_rfl) el_int h
 rw [ints_flat] at h2
 exact ⟨v,l,h1,h2,h3⟩
theorem el_net {n:Nat} {cs:List Value} {y:DataW H × List MemPlace} (h:DataW.trod enc Try.prog W base spare held n 25 cs=some y) : ∃ (vN vS:Value) (x:Net),cs=[vN,.int .i64 x.inp,vS]∧IsNet W vN vS x:=by
 obtain ⟨xs,m,_,hx,hlen,hxl,hg⟩:=DataW.trod_struct Try.underlying25 h
 have hC:Try.prog.cellsOf 25=3:=by kernel_rfl
 rw [hC] at hlen
 clear hx
 match cs,hlen with
 | [c0,c1,c2],_ =>
  match xs,hxl with
  | [y0,y1,y2],_ =>
   have h1:Try.prog.cellsOf 3=1:=by kernel_rfl
   have h2:Try.prog.cellsOf 22=1:=by kernel_rfl
   have h3:Try.prog.cellsOf 23=1:=by kernel_rfl
   have g0:DataW.trod enc Try.prog W base spare held m 22 [c0]=some y0:=by simpa [h2] using hg 0 _ rfl
   have g1:DataW.trod enc Try.prog W base spare held m 3 [c1]=some y1:=by simpa [h1] using hg 1 _ rfl
   have g2:DataW.trod enc Try.prog W base spare held m 23 [c2]=some y2:=by simpa [h3] using hg 2 _ rfl
   obtain ⟨v0,l0,e0,r0,_⟩:=el_rows Prm.vals Prm.vlen (by decide) Try.underlying22 (by kernel_rfl) el_prm g0
   obtain ⟨n1,e1⟩:=el_int g1
   obtain ⟨v2,l2,e2,r2,_⟩:=el_rows Syn.vals Syn.vlen (by decide) Try.underlying23 (by kernel_rfl) el_syn g2
   simp only [List.cons.injEq,and_true] at e0 e1 e2
   subst e0 e1 e2
   exact ⟨c0,c2,⟨l0,n1,l2⟩,rfl,r0,r2⟩
end
end Go.Proofs.Ytnnlpdgnlccbjaa
namespace Go.Proofs.Ytnnlpdgnlccbjaa
open Go.Sx
set_option maxRecDepth 100000
set_option maxHeartbeats 4000000
theorem is_at (b:Nat) (x0 x1 x2 x3:Value) (p:Option Addr) (n cap:Nat) (w:World) (hb:b<w.heap.size) (h : ∀ j x,[x0,x1,x2,x3,Value.slice p n cap][j]? = some x→w.cell? ⟨b,0+j,none⟩=some x) :
  Calls Try.prog 67 #[.pointer (some ⟨b,0,none⟩)] w fun e w'=>e = .returned (.bool (decide (0<(n:Int))))∧Ext w w':=by
 have hc:Cx.ok ⟨Try.prog,tab,[],67,Try.f67,[],w,[],none⟩:=⟨tab_ok,trivial,Try.func67,mixed,fun _ h=>by cases h⟩
 have hW:WI w [] (envM b 0) (Sx.look [(0,.win [x0,x1,x2,x3,Value.slice p n cap])]) (· < 1) w:=WI.tell (fun y hy=>by
   obtain rfl:=List.mem_singleton.1 hy
   exact ⟨(show 0<1 by decide),trivial,hb,(fun p hp=>by cases hp),h⟩) (fun x hx y hy hne=>by
   obtain rfl:=List.mem_singleton.1 hx
   obtain rfl:=List.mem_singleton.1 hy
   exact absurd rfl hne) (fun x hx ho=>by
   obtain rfl:=List.mem_singleton.1 hx
   exact ho.elim) (fun p hp=>by cases hp)
 refine Run.calls (tab:=tab) (pf:=[]) (cuts:=[]) Try.func67 rfl (envM b 0) [.ptr 0 0] [(0,.win [x0,x1,x2,x3,Value.slice p n cap])] 1 ⟨(show 0<1 by decide),trivial⟩ rfl hW (Run.of_wpK hc 100 _ ?_)
 conv=>whnf
 exact ⟨fun ρ w' hW _=>⟨rfl,hW.toExt⟩⟩
theorem is_nil (w:World):Calls Try.prog 67 #[.pointer none] w fun e w'=>e = .returned (.bool false)∧Ext w w':=by
 refine Run.start0 (tab:=tab) (pf:=[]) (cuts:=[]) mixed tab_ok trivial Try.func67 rfl [.v (.pointer none)] 100 ⟨trivial,trivial⟩ rfl ?_
 conv=>whnf
 exact ⟨fun ρ w' hW _=>⟨rfl,hW.toExt⟩⟩
/-- How many cells a told row has. -/
def rowLen (M:Mem) (q e:Nat):Option Nat:=match M q with
 | some (.row e2 n _ _)=>if e2=e then some n else none
 | some (.rwin e2 n _)=>if e2=e then some n else none
 | _=>none
theorem rowLen_congr {M M':Mem} {q e:Nat} (h:M' q=M q):rowLen M' q e=rowLen M q e:=by unfold rowLen; rw [h]
theorem rowLen_at {w0 w:World} {L:List (Nat × Nat)} {ρ:Env} {M:Mem} {S:Nat→Prop} (hW:WI w0 L ρ M S w) {q e n:Nat} (h:rowLen M q e=some n):(ρ.h q).2.1=n:=by
 unfold rowLen at h
 split at h
 ·rename_i hM
  split at h
  ·obtain rfl:=Option.some.inj h
   obtain ⟨_,_,hh⟩:=hW.mem _ _ hM
   rcases hh.2.2 with ⟨h1,h2⟩ | ⟨cap,sp,h1,_⟩
   ·rw [h1,h2]
   ·rw [h1]
  ·cases h
 ·rename_i hM
  split at h
  ·obtain rfl:=Option.some.inj h
   obtain ⟨_,_,hh⟩:=hW.mem _ _ hM
   exact hh.2.1
  ·cases h
 ·cases h
def FIs:Mem→List SV→Option (List Nat × SV):=fun M args=>match args with
 | [.ptr j 0]=>match M j with
  | some (.cells (_::_::_::_ :: .opq q::_) _)=>match rowLen M q 2 with
   | some n=>some ([j,q],.v (.bool (decide (0<(n:Int)))))
   | none=>none
  | _=>none
 | [.v (.pointer none)]=>some ([],.v (.bool false))
 | _=>none
theorem is_pure:Pure Try.prog 67 FIs where
 ent:=ent _ _ Try.func67 (by kernel_rfl) rfl
 sc S M args bs v hv _:=by
  unfold FIs at hv
  split at hv
  ·split at hv
   ·split at hv
    ·obtain ⟨rfl,rfl⟩:=Prod.mk.inj (Option.some.inj hv); trivial
    ·cases hv
   ·cases hv
  ·obtain ⟨rfl,rfl⟩:=Prod.mk.inj (Option.some.inj hv); trivial
  ·cases hv
 cong M M' args bs v hv hb:=by
  unfold FIs at hv ⊢
  split at hv
  ·rename_i j
   split at hv
   ·rename_i q r te hM
    split at hv
    ·rename_i n hn
     obtain ⟨rfl,rfl⟩:=Prod.mk.inj (Option.some.inj hv)
     simp only [hb j (by simp),hM,rowLen_congr (hb q (by simp)),hn]
    ·cases hv
   ·cases hv
  ·exact hv
  ·cases hv
 run w0 L ρ M S args bs v w hW hv:=by
  unfold FIs at hv
  split at hv
  ·rename_i j
   split at hv
   ·rename_i c0 c1 c2 c3 q r te hM
    split at hv
    ·rename_i n hn
     obtain ⟨rfl,rfl⟩:=Prod.mk.inj (Option.some.inj hv)
     have hl:=rowLen_at hW hn
     obtain ⟨_,_,ho,hh⟩:=hW.mem _ _ hM
     have:=is_at (ρ.s j) (c0.conc ρ) (c1.conc ρ) (c2.conc ρ) (c3.conc ρ) (ρ.h q).1 (ρ.h q).2.1 (ρ.h q).2.2 w (Array.getElem?_eq_some_iff.1 hh).1 (fun i x hx=>by
      unfold World.cell?
      rw [show (⟨ρ.s j,0+i,none⟩:Addr).block=ρ.s j from rfl,hh]
      have hi:i<5:=by have:=(List.getElem?_eq_some_iff.1 hx).1; simpa using this
      have:i=0∨i=1∨i=2∨i=3∨i=4:=by omega
      rcases this with rfl | rfl | rfl | rfl | rfl <;> simpa [SV.concs,SV.conc] using hx)
     rw [hl] at this
     show Calls _ _ #[.pointer (some ⟨ρ.s j,ρ.o j+0,none⟩)] _ _
     rw [ho]
     exact this
    ·cases hv
   ·cases hv
  ·obtain ⟨rfl,rfl⟩:=Prod.mk.inj (Option.some.inj hv)
   exact is_nil w
  ·cases hv
theorem Net_spec (tk:SV) (inp:Int) (rg:Nat→SV) (N:List Prm) (S:List Syn) (st:List Ste) (m:List Mrk) (hsc:SV.scs (· < 24) (lcells tk inp rg (.mp 7))) (hm:m.length=S.length) (hS:S.length≤8192) (hN:N.length≤1024) (hN1:1≤N.length) :
  BSpec Try.prog 28 [.ptr 0 0] (nowM (lcells tk inp rg (.mp 7)) N S m++[(3,.rwin 2 N.length (st.flatMap fun s=>[.int .i64 s.v,.int .i64 s.rest]))]) 24 [0] (.tup [.agg [.opq 24,ii inp,.opq 25],ii 0])
   [(24,.row 8 N.length ((N.flatMap Prm.vals).map .v) 60),(25,.row 4 S.length ((nowL S m).flatMap Syn.cells) 55),(0,.cells (lcells tk inp rg (.mp 7)) 96)] 26:=by
 have hpf:PF.oks Try.prog [(67,FIs)]:=⟨is_pure,trivial⟩
 have hc : ∀ w L' rd,(∀ p,rd=some p→p∈L')→Cx.ok ⟨Try.prog,tab,[(67,FIs)],28,Try.f28,[],w,L',rd⟩:=fun w L' rd h=>⟨tab_ok,hpf,Try.func28,mixed,h⟩
 refine BSpec.start (tab:=tab) (pf:=[(67,FIs)]) (cuts:=[]) Try.func28 rfl ⟨(show 0<24 by decide),trivial⟩ rfl fun w L0 plp hL hLB hcov=>Run.of_wpK (hc w L0 none (fun _ h=>by cases h)) 100 _ ?_
 conv=>whnf
 rw [decide_eq_true (show (0:Int)<(N.length:Int) by omega)]
 conv=>whnf
 refine Run.callP (vs:=[.ptr 0 0]) (caps:=[]) (now_spec tk inp rg (.mp 7) N S m hsc hm hS hN) (ent _ _ Try.func53 (by kernel_rfl) rfl) rfl rfl rfl rfl rfl rfl rfl (by decide) (by decide)
  ⟨⟨by omega,hsc,⟨_,rfl,Conv.refl _⟩,.inr (by simp),fun h=>by cases h⟩,⟨by omega,trivial,⟨_,rfl,Conv.refl _⟩,.inl rfl,fun _=>by simp⟩,⟨by omega,trivial,⟨_,rfl,Conv.refl _⟩,.inl rfl,fun _=>by simp⟩,⟨by omega,trivial,⟨_,rfl,Conv.refl _⟩,.inl rfl,fun _=>by simp⟩,trivial⟩
  (fun i hi=>by simp at hi; subst hi; exact ⟨by omega,_,rfl⟩) (.agg [.opq 26,ii inp,.opq 27])
  [(26,.row 8 N.length ((N.flatMap Prm.vals).map .v) 60),(27,.row 4 S.length ((nowL S m).flatMap Syn.cells) 55),(25,.cells [.v (.slice none 0 0),ii 0,.v (.slice none 0 0)] 25),(24,.pin plp),(0,.cells (lcells tk inp rg (.mp 7)) 96)] 28 rfl rfl
  ⟨.inr ⟨24,_,rfl,rfl,by rw [oren_fix (S:=fun _=>False) (fun i hi=>hi.elim) (o := .row 8 N.length ((N.flatMap Prm.vals).map .v) 60) (scs_v _ _)],rfl⟩,.inr ⟨25,_,rfl,rfl,by rw [oren_fix (S:=fun _=>False) (fun i hi=>hi.elim) (o := .row 4 S.length ((nowL S m).flatMap Syn.cells) 55) (scs_syns _ _)],rfl⟩,.inl ⟨rfl,by simp⟩,.inl ⟨rfl,by simp⟩,.inr ⟨0,_,rfl,rfl,by simp only [SObj.ren]; rw [rens_fix (fun i hi=>sh_fix i hi) _ hsc],rfl⟩,trivial⟩ ?_
 refine Run.of_wpK (hc w L0 none (fun _ h=>by cases h)) 1000 _ ?_
 conv=>whnf
 refine SpecR.intro 26 (by decide) hLB (by decide) hcov rfl rfl ⟨⟨(show 24<26 by decide),trivial,(show 25<26 by decide),trivial⟩,trivial,trivial⟩ ⟨⟨?_,by omega,scs_v _ _⟩,⟨?_,by omega,scs_syns _ _⟩,⟨?_,by omega,SV.scs_lt (by decide) hsc⟩,trivial⟩
 ·rw [oren_fix (S:=fun _=>False) (fun i hi=>hi.elim) (o := .row 8 N.length ((N.flatMap Prm.vals).map .v) 60) (scs_v _ _)]; rfl
 ·rw [oren_fix (S:=fun _=>False) (fun i hi=>hi.elim) (o := .row 4 S.length ((nowL S m).flatMap Syn.cells) 55) (scs_syns _ _)]; rfl
 ·simp only [SObj.ren]
  rw [rens_fix (fun i hi=>sh_fix i hi) _ hsc]; rfl
def Ste.vals (s:Ste):List Value:=[.int .i64 s.v,.int .i64 s.rest]
theorem steV (l:List Ste):l.flatMap Ste.cells=(l.flatMap Ste.vals).map .v:=by
 induction l with
 | nil=>rfl
 | cons a l ih=>rw [List.flatMap_cons,List.flatMap_cons,List.map_append,ih]; rfl
theorem one_ste (l:List Ste) : ∀ u∈l.flatMap Ste.vals,u.oneCell'=true:=one_vals (fun a u hu=>by
 simp only [Ste.vals,List.mem_cons,List.not_mem_nil,or_false] at hu
 rcases hu with rfl | rfl <;> rfl) l
theorem one_mrk (l:List Mrk) : ∀ u∈l.flatMap Mrk.vals,u.oneCell'=true:=one_vals (fun a u hu=>by
 simp only [Mrk.vals,List.mem_cons,List.not_mem_nil,or_false] at hu
 rcases hu with rfl | rfl | rfl | rfl <;> rfl) l
theorem mk_states:Maker Try.prog 70 (FCl 2 139):=Maker.clone (by decide) (ent _ _ Try.func70 (by kernel_rfl) rfl) cloneStates
theorem mk_marks:Maker Try.prog 71 (FCl 4 84):=Maker.clone (by decide) (ent _ _ Try.func71 (by kernel_rfl) rfl) cloneMarks
abbrev pfCpy:PF:=[(67,FIs),(70+1000,FCl 2 139),(71+1000,FCl 4 84)]
theorem pfCpy_ok:PF.oks Try.prog pfCpy:=⟨is_pure,mk_states,mk_marks,trivial⟩
/-- The cells of a copy, whose states and marks have numbers of their own. -/
def ccells (tk:SV) (inp:Int) (rg:Nat→SV) (tt:SV):List SV:=[tk,.opq 1,ii inp,.opq 2,.opq 25,rg 0,rg 1,rg 2,rg 3,rg 4,rg 5,rg 6,rg 7,rg 8,rg 9,rg 10,rg 11,rg 12,rg 13,rg 14,rg 15,.opq 4,.opq 5,.opq 26,tt]
theorem Copy_spec (tk inp:Int) (N:List Prm) (pl:List Int) (st:List Ste) (m:List Mrk) (hN:N.length≤1024) (hN1:1≤N.length) (hS:pl.length≤8192) :
  BSpec Try.prog 30 [.ptr 0 0] [(0,.cells (lcells (ii tk) inp (fun k => .mp (8+k)) (.mp 7)) 96),(3,.rwin 2 N.length (st.flatMap Ste.vals)),(6,.rwin 4 pl.length (m.flatMap Mrk.vals))] 24 [0] (.ptr 24 0)
   [(24,.cells (ccells (ii tk) inp (fun k => .mp (8+k)) (.mp 7)) 96),(25,.row 2 N.length (st.flatMap Ste.cells) 139),(26,.row 4 pl.length (m.flatMap Mrk.cells) 84),(0,.cells (lcells (ii tk) inp (fun k => .mp (8+k)) (.mp 7)) 96)] 27:=by
 have hc : ∀ w L' rd,(∀ p,rd=some p→p∈L')→Cx.ok ⟨Try.prog,tab,pfCpy,30,Try.f30,[],w,L',rd⟩:=fun w L' rd h=>⟨tab_ok,pfCpy_ok,Try.func30,mixed,h⟩
 refine BSpec.start (tab:=tab) (pf:=pfCpy) (cuts:=[]) Try.func30 rfl ⟨(show 0<24 by decide),trivial⟩ rfl fun w L0 plp hL hLB hcov=>Run.of_wpK (hc w L0 none (fun _ h=>by cases h)) 100 _ ?_
 conv=>whnf
 rw [decide_eq_true (show (0:Int)<(N.length:Int) by omega)]
 conv=>whnf
 refine Run.draw (hc w L0 none (fun _ h=>by cases h)) 11 ?_
 rw [show upto 0 11=upto 0 6++upto 6 5 from rfl]
 simp only [drawK_app]
 conv=>whnf
 rw [opF_callM (F:=FCl 2 139) rfl rfl rfl rfl rfl (FCl_win rfl (by omega) (one_ste _))]
 conv=>whnf
 rw [opF_callM (F:=FCl 4 84) rfl rfl rfl rfl rfl (FCl_win rfl (by omega) (one_mrk _))]
 conv=>whnf
 refine ⟨by kernel_rfl,?_⟩
 refine Run.of_wpK (hc w L0 none (fun _ h=>by cases h)) 1000 _ ?_
 conv=>whnf
 refine SpecR.introQ (rq [(24,25),(25,31),(26,36)]) (fun i hi=>rq_fix (rq_noneB (B:=24) rfl hi)) ?_ (Widens.refl _ _) hLB (by decide) hcov rfl rfl (show 24<27 by decide) ?_
 ·intro i hi j hj hne
  have inj : ∀ i,i<27 → ∀ j,j<27→i≠j→rq [(24,25),(25,31),(26,36)] i≠rq [(24,25),(25,31),(26,36)] j:=by decide
  exact inj i hi j hj hne
 ·refine ⟨⟨rfl,by omega,by simp [ccells,SObj.sc,SV.scs,SV.sc]⟩,⟨?_,by omega,scs_st _ _⟩,⟨?_,by omega,scs_marks _ _⟩,⟨rfl,by omega,by simp [lcells,SObj.sc,SV.scs,SV.sc]⟩,trivial⟩
  ·rw [oren_fix (S:=fun _=>False) (fun i hi=>hi.elim) (o := .row 2 N.length (st.flatMap Ste.cells) 139) (scs_st _ _),steV]; rfl
  ·rw [oren_fix (S:=fun _=>False) (fun i hi=>hi.elim) (o := .row 4 pl.length (m.flatMap Mrk.cells) 84) (scs_marks _ _),marks_v]; rfl
end Go.Proofs.Ytnnlpdgnlccbjaa
namespace Go.Proofs.Ytnnlpdgnlccbjaa
open Go.Sx
set_option maxRecDepth 100000
set_option maxHeartbeats 8000000
def FS1_v:List SV→Option SV
 | [.v (.int .i64 a)]=>some (.v (.bool !wi a (-128) 127))
 | _=>none
theorem step1_pure : Pure Try.prog 69 (plainF FS1_v) := PureV.lift
  { ent := ent _ _ Try.func69 (by kernel_rfl) rfl
    sc := fun S args v hv _ => by
      unfold FS1_v at hv
      split at hv
      · obtain rfl := Option.some.inj hv; trivial
      · cases hv
    run := fun ρ args v w hv => by
      unfold FS1_v at hv
      split at hv
      · rename_i a
        obtain rfl := Option.some.inj hv
        refine Run.start0 (tab := tab) (pf := pfl1) (cuts := []) mixed tab_ok pfl1_ok Try.func69 rfl [ii a] 100 ⟨trivial, trivial⟩ rfl ?_
        conv => whnf
        exact ⟨fun ρ w' hW _ => ⟨rfl, hW.toExt⟩⟩
      · cases hv }
/-- The first reward that is not within bounds, or -1. -/
def rwF (l:List Int) (i:Nat):Int:=if wi (l.getD i 0) (-128) 127 then 0 else (i:Int)+1
def rwIx (l:List Int):Int:=firstE (rwF l) (List.range l.length)-1
def rwBad (l:List Int):Bool:=decide (0≤rwIx l)
theorem rwIx_at {l:List Int} {i:Nat} (hi:i<l.length) (h0 : ∀ j,j<l.length→j<i→rwF l j=0) (h:wi (l.getD i 0) (-128) 127=false):rwIx l=(i:Int):=by
 have e:rwF l i=(i:Int)+1:=by unfold rwF; rw [h]; rfl
 unfold rwIx
 rw [firstN_at hi h0 (by rw [e]; omega),e]; omega
theorem rwIx_no {l:List Int} (h0 : ∀ j,j<l.length→rwF l j=0):rwIx l = -1:=by
 unfold rwIx
 rw [firstN_all h0]; rfl
theorem rwBad_no {l:List Int} (h : ∀ x∈l,-128≤x∧x≤127):rwBad l=false:=by
 unfold rwBad
 rw [rwIx_no fun j hj => ?_]
 ·rfl
 ·unfold rwF
  rw [if_pos]
  have:=h l[j] (List.getElem_mem hj)
  rw [wi_iff]
  simpa [List.getD_eq_getElem?_getD,hj] using this
theorem index_run (v:Value) (l:List Int) (w:World) (hr:RowsAt w v 1 l.length (ints l)) (hl:l.length<4611686018427387904) :
  Calls Try.prog 95 #[v,.func (.func 69) #[] #[]] w fun e w'=>e = .returned (.int .i64 (rwIx l))∧Ext w w':=by
 have hpf:PF.oks Try.prog [(69,plainF FS1_v)]:=⟨step1_pure,trivial⟩
 have hc:Cx.ok ⟨Try.prog,tab,[(69,plainF FS1_v)],95,Try.f95,[],w,[],none⟩:=⟨tab_ok,hpf,Try.func95,mixed,fun _ h=>by cases h⟩
 have hrows:AllP (fun x:Value × Nat × Nat × List Value=>RowsAt w x.1 x.2.1 x.2.2.1 x.2.2.2) [(v,1,l.length,ints l)]:=⟨hr,trivial⟩
 refine Run.startW (tab:=tab) (pf:=[(69,plainF FS1_v)]) (cuts:=[]) Try.func95 rfl _ hrows [.opq 0,.v (.func (.func 69) #[] #[])] [v,.func (.func 69) #[] #[]] [(0,.rwin 1 l.length (ints l))] 1 rfl rfl
  (by show [(SV.opq 0).conc _,_]=_; rw [conc_rows hrows (k:=0) rfl]; rfl) ⟨(show 0<1 by decide),trivial,trivial⟩ rfl (Run.of_wpK hc 100 _ ?_)
 conv=>whnf
 refine Run.trim (T':=[(0,.opq 0),(1,.v (.func (.func 69) #[] #[])),(6,.opq 0),(7,ii (l.length:Int)),(8,ii (((0:Nat):Nat):Int))]) (M':=[(0,.rwin 1 l.length (ints l))]) 1 ⟨⟨rfl,(show 0<1 by decide)⟩,⟨rfl,trivial⟩,⟨rfl,(show 0<1 by decide)⟩,⟨rfl,trivial⟩,⟨rfl,trivial⟩,trivial⟩ ⟨⟨rfl,(show 0<1 by decide),trivial⟩,trivial⟩ (fun p hp=>by cases hp) ?_
 refine Run.upToJ (T:=fun i=>[(0,.opq 0),(1,.v (.func (.func 69) #[] #[])),(6,.opq 0),(7,ii (l.length:Int)),(8,ii ((i:Nat):Int))]) (M:=fun i=>[(0,.rwin 1 l.length (ints l))]) (fun i => ∀ j,j<l.length→j<i→rwF l j=0) (l.length) ?_ ?_ ?_
 ·exact fun j _ h=>by omega
 ·intro i hi hJ ih
  refine Run.of_wpK hc 1000 _ ?_
  conv=>whnf
  rw [decide_eq_true (show ((i:Nat):Int)<(l.length:Int) by omega)]
  conv=>whnf
  refine ⟨by omega,?_⟩
  conv=>whnf
  rw [opF_load1 i rfl rfl rfl rfl (by rw [idx_nat,Nat.mul_one]) (ints_get hi)]
  conv=>whnf
  cases hb:wi l[i] (-128) 127
  case false =>
   conv=>whnf
   exact ⟨fun ρ w' hW _=>⟨by rw [rwIx_at hi hJ (by simpa [List.getD_eq_getElem?_getD,hi] using hb)]; rfl,hW.toExt⟩⟩
  conv=>whnf
  exact Run.trim (T':=[(0,.opq 0),(1,.v (.func (.func 69) #[] #[])),(6,.opq 0),(7,ii (l.length:Int)),(8,ii (((i+1:Nat):Nat):Int))]) (M':=[(0,.rwin 1 l.length (ints l))]) 1 ⟨⟨rfl,(show 0<1 by decide)⟩,⟨rfl,trivial⟩,⟨rfl,(show 0<1 by decide)⟩,⟨rfl,trivial⟩,⟨congrArg some (congrArg ii (wrap_succ (by omega))),trivial⟩,trivial⟩ ⟨⟨rfl,(show 0<1 by decide),trivial⟩,trivial⟩ (fun p hp=>by cases hp) (ih (upN hJ (by unfold rwF; rw [show l.getD i 0=l[i] by simp [List.getD_eq_getElem?_getD,hi],hb]; rfl)))
 ·intro hJ
  refine Run.of_wpK hc 1000 _ ?_
  conv=>whnf
  rw [decide_eq_false (show ¬ ((l.length:Nat):Int)<(l.length:Int) by omega)]
  conv=>whnf
  exact ⟨fun ρ w' hW _=>⟨by rw [rwIx_no fun j hj=>hJ j hj hj]; rfl,hW.toExt⟩⟩
theorem contains_run (v:Value) (l:List Int) (w:World) (hr:RowsAt w v 1 l.length (ints l)) (hl:l.length<4611686018427387904) :
  Calls Try.prog 68 #[v,.func (.func 69) #[] #[]] w fun e w'=>e = .returned (.bool (rwBad l))∧Ext w w':=by
 have hc:Cx.ok ⟨Try.prog,tab,[],68,Try.f68,[],w,[],none⟩:=⟨tab_ok,trivial,Try.func68,mixed,fun _ h=>by cases h⟩
 have hrows:AllP (fun x:Value × Nat × Nat × List Value=>RowsAt w x.1 x.2.1 x.2.2.1 x.2.2.2) [(v,1,l.length,ints l)]:=⟨hr,trivial⟩
 refine Run.startW (tab:=tab) (pf:=[]) (cuts:=[]) Try.func68 rfl _ hrows [.opq 0,.v (.func (.func 69) #[] #[])] [v,.func (.func 69) #[] #[]] [(0,.rwin 1 l.length (ints l))] 1 rfl rfl
  (by show [(SV.opq 0).conc _,_]=_; rw [conc_rows hrows (k:=0) rfl]; rfl) ⟨(show 0<1 by decide),trivial,trivial⟩ rfl (Run.of_wpK hc 100 _ ?_)
 conv=>whnf
 refine Run.callE (g:=95) (vs:=[.opq 0,.v (.func (.func 69) #[] #[])]) (caps:=[]) (ii (rwIx l)) (fun ρ w1 hW=>index_run _ l w1 (hW.rowsAt rfl) hl) (ent _ _ Try.func95 (by kernel_rfl) rfl) rfl rfl rfl rfl rfl rfl rfl trivial ?_
 refine Run.of_wpK hc 100 _ ?_
 conv=>whnf
 exact ⟨fun ρ w' hW _=>⟨rfl,hW.toExt⟩⟩
/-- The error of an input of a list. -/
def inAt (inp:Int) (l:List Int) (i:Nat):Int:=if wi (l.getD i 0) 0 (W (inp-1))=false then 3 else if 0<i∧l.getD i 0≤l.getD (i-1) 0 then 2 else 0
def insChk (inp:Int) (l:List Int):Int:=firstE (inAt inp l) (List.range l.length)
def rwChk (R:Nat) (l:List Int):Int:=if (l.length:Int)=0 then 0 else if (l.length:Int)≠(R:Int) then 13 else if rwBad l=true then 3 else 0
def stepChk (x:Lnt) (s:Lst) (ins rw0:List Int):Int:=if 10000≤s.tick then 8 else if insChk x.n.inp ins≠0 then insChk x.n.inp ins else rwChk x.rs.length rw0
/-- The rewards of a tick: nothing stands for zeros. -/
def rwOf (R:Nat) (l:List Int):List Int:=if (l.length:Int)=0 then List.replicate R 0 else l
theorem stepChk_ok {x:Lnt} {s:Lst} {ins rw0:List Int} (h:stepChk x s ins rw0=0):s.tick<10000∧insChk x.n.inp ins=0∧rwChk x.rs.length rw0=0:=by
 unfold stepChk at h
 split at h
 ·cases h
 split at h
 ·rename_i h1; exact absurd h h1
 ·rename_i h1 h2; exact ⟨by omega,by simpa using h2,h⟩
theorem rwOf_len {R:Nat} {l:List Int} (h:rwChk R l=0):(rwOf R l).length=R:=by
 unfold rwOf
 unfold rwChk at h
 split at h
 ·rename_i h1; rw [if_pos h1,List.length_replicate]
 ·rename_i h1
  rw [if_neg h1]
  split at h
  ·cases h
  ·omega
abbrev pfStp:PF:=[(67,FIs),(44,F3 fun n lo hi => .bool (wi n lo hi))]
theorem pfStp_ok:PF.oks Try.prog pfStp:=⟨is_pure,lwithin_pure,trivial⟩
theorem Step_bad (x:Lnt) (s:Lst) (ins rw0:List Int) (e:Int) (hx:NetOK x) (he:stepChk x s ins rw0=e) (hne:e≠0) (hin:ins.length<4611686018427387904) (hrw:rw0.length<4611686018427387904) :
  BSpec Try.prog 27 [.ptr 0 0,.opq 24,.opq 25] (lM x (lC x s) s++[(24,.rwin 1 ins.length (ints ins)),(25,.rwin 1 rw0.length (ints rw0))]) 26 [0,3,6] (.tup [.v (.slice none 0 0),ii e]) [(0,.cells (lcells (ii s.tick) x.n.inp (fun k => .mp (8+k)) (.mp 7)) 96),(3,.row 2 x.n.N.length (s.st.flatMap Ste.cells) 139),(6,.row 4 x.pl.length (s.m.flatMap Mrk.cells) 84)] 26:=by
 have hN1:=hx.N1
 have hinp0:=hx.inp0
 have hinp1:=hx.inp1
 have hRl:=hx.rl
 have hc : ∀ w L' rd,(∀ p,rd=some p→p∈L')→Cx.ok ⟨Try.prog,tab,pfStp,27,Try.f27,[],w,L',rd⟩:=fun w L' rd h=>⟨tab_ok,pfStp_ok,Try.func27,mixed,h⟩
 refine BSpec.start (tab:=tab) (pf:=pfStp) (cuts:=[]) Try.func27 rfl ⟨(show 0<26 by decide),(show 24<26 by decide),(show 25<26 by decide),trivial⟩ rfl fun w L0 plp hL hLB hcov=>Run.of_wpK (hc w L0 none (fun _ h=>by cases h)) 100 _ ?_
 conv=>whnf
 rw [decide_eq_true (show (0:Int)<(x.n.N.length:Int) by omega)]
 conv=>whnf
 by_cases hlt:10000≤s.tick
 ·obtain rfl:e=8:=by rw [← he]; unfold stepChk; rw [if_pos hlt]
  rw [show decide ((10000:Int)≤s.tick)=true by simpa using hlt]
  conv=>whnf
  exact SpecR.intro 27 (by decide) hLB (by decide) hcov rfl rfl ⟨trivial,trivial,trivial⟩ ⟨⟨rfl,by omega,by simp [lcells,SObj.sc,SV.scs,SV.sc]⟩,⟨by rw [oren_fix (S:=fun _=>False) (fun i hi=>hi.elim) (o := .row 2 x.n.N.length (s.st.flatMap Ste.cells) 139) (scs_st _ _)]; rfl,by omega,scs_st _ _⟩,⟨by rw [oren_fix (S:=fun _=>False) (fun i hi=>hi.elim) (o := .row 4 x.pl.length (s.m.flatMap Mrk.cells) 84) (scs_marks _ _)]; rfl,by omega,scs_marks _ _⟩,trivial⟩
 rw [show decide ((10000:Int)≤s.tick)=false by simpa using hlt]
 conv=>whnf
 refine Run.trim (T':=[(0,.ptr 0 0),(1,.opq 24),(2,.opq 25),(21,.opq 24),(22,ii (ins.length:Int)),(23,ii (((0:Nat):Nat):Int))]) (M':=[(26,.pin plp),(0,.cells (lcells (ii s.tick) x.n.inp (fun k => .mp (8+k)) (.mp 7)) 96),(1,.rwin 8 x.n.N.length (x.n.N.flatMap Prm.vals)),(2,.rwin 4 x.n.S.length (x.n.S.flatMap Syn.vals)),(3,.row 2 x.n.N.length (s.st.flatMap Ste.cells) 139),(4,.rwin 10 x.rs.length (x.rs.flatMap Rul.vals)),(5,.rwin 1 x.pl.length (ints x.pl)),(6,.row 4 x.pl.length (s.m.flatMap Mrk.cells) 84),(7,.kwin true x.tot),(8,.kwin false (sentE (s.sm 0))),(9,.kwin false (sentE (s.sm 1))),(10,.kwin false (sentE (s.sm 2))),(11,.kwin false (sentE (s.sm 3))),(12,.kwin false (sentE (s.sm 4))),(13,.kwin false (sentE (s.sm 5))),(14,.kwin false (sentE (s.sm 6))),(15,.kwin false (sentE (s.sm 7))),(16,.kwin false (sentE (s.sm 8))),(17,.kwin false (sentE (s.sm 9))),(18,.kwin false (sentE (s.sm 10))),(19,.kwin false (sentE (s.sm 11))),(20,.kwin false (sentE (s.sm 12))),(21,.kwin false (sentE (s.sm 13))),(22,.kwin false (sentE (s.sm 14))),(23,.kwin false (sentE (s.sm 15))),(24,.rwin 1 ins.length (ints ins)),(25,.rwin 1 rw0.length (ints rw0))]) 27 ⟨⟨rfl,(show 0<27 by decide)⟩,⟨rfl,(show 24<27 by decide)⟩,⟨rfl,(show 25<27 by decide)⟩,⟨rfl,(show 24<27 by decide)⟩,⟨rfl,trivial⟩,⟨rfl,trivial⟩,trivial⟩ ⟨⟨rfl,by omega,fun p hp=>Nat.lt_of_lt_of_le (hcov.1 p hp) (show 26≤27 by decide)⟩,⟨rfl,by omega,by simp [lcells,SObj.sc,SV.scs,SV.sc]⟩,⟨rfl,by omega,trivial⟩,⟨rfl,by omega,trivial⟩,⟨rfl,by omega,scs_st _ _⟩,⟨rfl,by omega,trivial⟩,⟨rfl,by omega,trivial⟩,⟨rfl,by omega,scs_marks _ _⟩,⟨rfl,by omega,trivial⟩,⟨rfl,by omega,trivial⟩,⟨rfl,by omega,trivial⟩,⟨rfl,by omega,trivial⟩,⟨rfl,by omega,trivial⟩,⟨rfl,by omega,trivial⟩,⟨rfl,by omega,trivial⟩,⟨rfl,by omega,trivial⟩,⟨rfl,by omega,trivial⟩,⟨rfl,by omega,trivial⟩,⟨rfl,by omega,trivial⟩,⟨rfl,by omega,trivial⟩,⟨rfl,by omega,trivial⟩,⟨rfl,by omega,trivial⟩,⟨rfl,by omega,trivial⟩,⟨rfl,by omega,trivial⟩,⟨rfl,by omega,trivial⟩,⟨rfl,by omega,trivial⟩,⟨rfl,by omega,trivial⟩,trivial⟩ (fun p hp=>by have:=hLB p hp; omega) ?_
 refine Run.upToJ (T:=fun i=>[(0,.ptr 0 0),(1,.opq 24),(2,.opq 25),(21,.opq 24),(22,ii (ins.length:Int)),(23,ii ((i:Nat):Int))]) (M:=fun i=>[(26,.pin plp),(0,.cells (lcells (ii s.tick) x.n.inp (fun k => .mp (8+k)) (.mp 7)) 96),(1,.rwin 8 x.n.N.length (x.n.N.flatMap Prm.vals)),(2,.rwin 4 x.n.S.length (x.n.S.flatMap Syn.vals)),(3,.row 2 x.n.N.length (s.st.flatMap Ste.cells) 139),(4,.rwin 10 x.rs.length (x.rs.flatMap Rul.vals)),(5,.rwin 1 x.pl.length (ints x.pl)),(6,.row 4 x.pl.length (s.m.flatMap Mrk.cells) 84),(7,.kwin true x.tot),(8,.kwin false (sentE (s.sm 0))),(9,.kwin false (sentE (s.sm 1))),(10,.kwin false (sentE (s.sm 2))),(11,.kwin false (sentE (s.sm 3))),(12,.kwin false (sentE (s.sm 4))),(13,.kwin false (sentE (s.sm 5))),(14,.kwin false (sentE (s.sm 6))),(15,.kwin false (sentE (s.sm 7))),(16,.kwin false (sentE (s.sm 8))),(17,.kwin false (sentE (s.sm 9))),(18,.kwin false (sentE (s.sm 10))),(19,.kwin false (sentE (s.sm 11))),(20,.kwin false (sentE (s.sm 12))),(21,.kwin false (sentE (s.sm 13))),(22,.kwin false (sentE (s.sm 14))),(23,.kwin false (sentE (s.sm 15))),(24,.rwin 1 ins.length (ints ins)),(25,.rwin 1 rw0.length (ints rw0))]) (fun i => ∀ j,j<ins.length→j<i→inAt x.n.inp ins j=0) (ins.length) ?_ ?_ ?_
 ·exact fun j _ h=>by omega
 ·intro i hi hJ ih
  refine Run.of_wpK (hc w L0 none (fun _ h=>by cases h)) 1000 _ ?_
  conv=>whnf
  rw [decide_eq_true (show ((i:Nat):Int)<(ins.length:Int) by omega)]
  conv=>whnf
  refine ⟨by omega,?_⟩
  conv=>whnf
  rw [opF_load1 i rfl rfl rfl rfl (by rw [idx_nat,Nat.mul_one]) (ints_get hi)]
  conv=>whnf
  have hgi:ins.getD i 0=ins[i]:=by simp [List.getD_eq_getElem?_getD,hi]
  cases hb:wi ins[i] 0 (IntKind.i64.wrap (x.n.inp-1))
  case false =>
   have hat:inAt x.n.inp ins i=3:=by unfold inAt; rw [hgi,show wi ins[i] 0 (W (x.n.inp-1))=false from hb]; rfl
   have hck:insChk x.n.inp ins=3:=by unfold insChk; rw [firstN_at hi hJ (by rw [hat]; decide),hat]
   obtain rfl:e=3:=by rw [← he]; unfold stepChk; rw [if_neg hlt,hck]; rfl
   conv=>whnf
   exact SpecR.intro 27 (by decide) hLB (by decide) hcov rfl rfl ⟨trivial,trivial,trivial⟩ ⟨⟨rfl,by omega,by simp [lcells,SObj.sc,SV.scs,SV.sc]⟩,⟨by rw [oren_fix (S:=fun _=>False) (fun i hi=>hi.elim) (o := .row 2 x.n.N.length (s.st.flatMap Ste.cells) 139) (scs_st _ _)]; rfl,by omega,scs_st _ _⟩,⟨by rw [oren_fix (S:=fun _=>False) (fun i hi=>hi.elim) (o := .row 4 x.pl.length (s.m.flatMap Mrk.cells) 84) (scs_marks _ _)]; rfl,by omega,scs_marks _ _⟩,trivial⟩
  have hb2:wi ins[i] 0 (W (x.n.inp-1))=true:=hb
  conv=>whnf
  by_cases hi0:i=0
  ·subst hi0
   conv=>whnf
   have hat:inAt x.n.inp ins 0=0:=by unfold inAt; rw [hgi,hb2]; simp only [Bool.true_eq_false,if_false]; rw [if_neg (fun h=>absurd h.1 (by decide))]
   exact Run.trim (T':=[(0,.ptr 0 0),(1,.opq 24),(2,.opq 25),(21,.opq 24),(22,ii (ins.length:Int)),(23,ii (((0+1:Nat):Nat):Int))]) (M':=[(26,.pin plp),(0,.cells (lcells (ii s.tick) x.n.inp (fun k => .mp (8+k)) (.mp 7)) 96),(1,.rwin 8 x.n.N.length (x.n.N.flatMap Prm.vals)),(2,.rwin 4 x.n.S.length (x.n.S.flatMap Syn.vals)),(3,.row 2 x.n.N.length (s.st.flatMap Ste.cells) 139),(4,.rwin 10 x.rs.length (x.rs.flatMap Rul.vals)),(5,.rwin 1 x.pl.length (ints x.pl)),(6,.row 4 x.pl.length (s.m.flatMap Mrk.cells) 84),(7,.kwin true x.tot),(8,.kwin false (sentE (s.sm 0))),(9,.kwin false (sentE (s.sm 1))),(10,.kwin false (sentE (s.sm 2))),(11,.kwin false (sentE (s.sm 3))),(12,.kwin false (sentE (s.sm 4))),(13,.kwin false (sentE (s.sm 5))),(14,.kwin false (sentE (s.sm 6))),(15,.kwin false (sentE (s.sm 7))),(16,.kwin false (sentE (s.sm 8))),(17,.kwin false (sentE (s.sm 9))),(18,.kwin false (sentE (s.sm 10))),(19,.kwin false (sentE (s.sm 11))),(20,.kwin false (sentE (s.sm 12))),(21,.kwin false (sentE (s.sm 13))),(22,.kwin false (sentE (s.sm 14))),(23,.kwin false (sentE (s.sm 15))),(24,.rwin 1 ins.length (ints ins)),(25,.rwin 1 rw0.length (ints rw0))]) 27 ⟨⟨rfl,(show 0<27 by decide)⟩,⟨rfl,(show 24<27 by decide)⟩,⟨rfl,(show 25<27 by decide)⟩,⟨rfl,(show 24<27 by decide)⟩,⟨rfl,trivial⟩,⟨congrArg some (congrArg ii (wrap_succ (by omega))),trivial⟩,trivial⟩ ⟨⟨rfl,by omega,fun p hp=>Nat.lt_of_lt_of_le (hcov.1 p hp) (show 26≤27 by decide)⟩,⟨rfl,by omega,by simp [lcells,SObj.sc,SV.scs,SV.sc]⟩,⟨rfl,by omega,trivial⟩,⟨rfl,by omega,trivial⟩,⟨rfl,by omega,scs_st _ _⟩,⟨rfl,by omega,trivial⟩,⟨rfl,by omega,trivial⟩,⟨rfl,by omega,scs_marks _ _⟩,⟨rfl,by omega,trivial⟩,⟨rfl,by omega,trivial⟩,⟨rfl,by omega,trivial⟩,⟨rfl,by omega,trivial⟩,⟨rfl,by omega,trivial⟩,⟨rfl,by omega,trivial⟩,⟨rfl,by omega,trivial⟩,⟨rfl,by omega,trivial⟩,⟨rfl,by omega,trivial⟩,⟨rfl,by omega,trivial⟩,⟨rfl,by omega,trivial⟩,⟨rfl,by omega,trivial⟩,⟨rfl,by omega,trivial⟩,⟨rfl,by omega,trivial⟩,⟨rfl,by omega,trivial⟩,⟨rfl,by omega,trivial⟩,⟨rfl,by omega,trivial⟩,⟨rfl,by omega,trivial⟩,⟨rfl,by omega,trivial⟩,trivial⟩ (fun p hp=>by have:=hLB p hp; omega) (ih (upN hJ hat))
  have hw1:IntKind.i64.wrap ((i:Int)-1)=((i-1:Nat):Int):=by
   rw [show (i:Int)-1=((i-1:Nat):Int) by omega]
   exact W_id (by omega) (by omega)
  rw [show decide ((0:Int)<((i:Nat):Int))=true by rw [decide_eq_true_eq]; omega]
  conv=>whnf
  refine ⟨by show 0≤IntKind.i64.wrap ((i:Int)-1)∧IntKind.i64.wrap ((i:Int)-1)<(ins.length:Int); rw [hw1]; omega,?_⟩
  conv=>whnf
  rw [opF_load1 (i-1) rfl rfl rfl rfl (by show idx (IntKind.i64.wrap ((i:Int)-1)) 1=_; rw [hw1]; rfl) (ints_get (by omega))]
  conv=>whnf
  have hgp:ins.getD (i-1) 0=ins[i-1]:=by simp [List.getD_eq_getElem?_getD,show i-1<ins.length by omega]
  cases hq:decide (ins[i]≤ins[i-1])
  case true =>
   have hat:inAt x.n.inp ins i=2:=by unfold inAt; rw [hgi,hgp,hb2]; simp only [Bool.true_eq_false,if_false]; rw [if_pos ⟨by omega,of_decide_eq_true hq⟩]
   have hck:insChk x.n.inp ins=2:=by unfold insChk; rw [firstN_at hi hJ (by rw [hat]; decide),hat]
   obtain rfl:e=2:=by rw [← he]; unfold stepChk; rw [if_neg hlt,hck]; rfl
   conv=>whnf
   exact SpecR.intro 27 (by decide) hLB (by decide) hcov rfl rfl ⟨trivial,trivial,trivial⟩ ⟨⟨rfl,by omega,by simp [lcells,SObj.sc,SV.scs,SV.sc]⟩,⟨by rw [oren_fix (S:=fun _=>False) (fun i hi=>hi.elim) (o := .row 2 x.n.N.length (s.st.flatMap Ste.cells) 139) (scs_st _ _)]; rfl,by omega,scs_st _ _⟩,⟨by rw [oren_fix (S:=fun _=>False) (fun i hi=>hi.elim) (o := .row 4 x.pl.length (s.m.flatMap Mrk.cells) 84) (scs_marks _ _)]; rfl,by omega,scs_marks _ _⟩,trivial⟩
  have hat:inAt x.n.inp ins i=0:=by unfold inAt; rw [hgi,hgp,hb2]; simp only [Bool.true_eq_false,if_false]; rw [if_neg (fun h=>of_decide_eq_false hq h.2)]
  conv=>whnf
  exact Run.trim (T':=[(0,.ptr 0 0),(1,.opq 24),(2,.opq 25),(21,.opq 24),(22,ii (ins.length:Int)),(23,ii (((i+1:Nat):Nat):Int))]) (M':=[(26,.pin plp),(0,.cells (lcells (ii s.tick) x.n.inp (fun k => .mp (8+k)) (.mp 7)) 96),(1,.rwin 8 x.n.N.length (x.n.N.flatMap Prm.vals)),(2,.rwin 4 x.n.S.length (x.n.S.flatMap Syn.vals)),(3,.row 2 x.n.N.length (s.st.flatMap Ste.cells) 139),(4,.rwin 10 x.rs.length (x.rs.flatMap Rul.vals)),(5,.rwin 1 x.pl.length (ints x.pl)),(6,.row 4 x.pl.length (s.m.flatMap Mrk.cells) 84),(7,.kwin true x.tot),(8,.kwin false (sentE (s.sm 0))),(9,.kwin false (sentE (s.sm 1))),(10,.kwin false (sentE (s.sm 2))),(11,.kwin false (sentE (s.sm 3))),(12,.kwin false (sentE (s.sm 4))),(13,.kwin false (sentE (s.sm 5))),(14,.kwin false (sentE (s.sm 6))),(15,.kwin false (sentE (s.sm 7))),(16,.kwin false (sentE (s.sm 8))),(17,.kwin false (sentE (s.sm 9))),(18,.kwin false (sentE (s.sm 10))),(19,.kwin false (sentE (s.sm 11))),(20,.kwin false (sentE (s.sm 12))),(21,.kwin false (sentE (s.sm 13))),(22,.kwin false (sentE (s.sm 14))),(23,.kwin false (sentE (s.sm 15))),(24,.rwin 1 ins.length (ints ins)),(25,.rwin 1 rw0.length (ints rw0))]) 27 ⟨⟨rfl,(show 0<27 by decide)⟩,⟨rfl,(show 24<27 by decide)⟩,⟨rfl,(show 25<27 by decide)⟩,⟨rfl,(show 24<27 by decide)⟩,⟨rfl,trivial⟩,⟨congrArg some (congrArg ii (wrap_succ (by omega))),trivial⟩,trivial⟩ ⟨⟨rfl,by omega,fun p hp=>Nat.lt_of_lt_of_le (hcov.1 p hp) (show 26≤27 by decide)⟩,⟨rfl,by omega,by simp [lcells,SObj.sc,SV.scs,SV.sc]⟩,⟨rfl,by omega,trivial⟩,⟨rfl,by omega,trivial⟩,⟨rfl,by omega,scs_st _ _⟩,⟨rfl,by omega,trivial⟩,⟨rfl,by omega,trivial⟩,⟨rfl,by omega,scs_marks _ _⟩,⟨rfl,by omega,trivial⟩,⟨rfl,by omega,trivial⟩,⟨rfl,by omega,trivial⟩,⟨rfl,by omega,trivial⟩,⟨rfl,by omega,trivial⟩,⟨rfl,by omega,trivial⟩,⟨rfl,by omega,trivial⟩,⟨rfl,by omega,trivial⟩,⟨rfl,by omega,trivial⟩,⟨rfl,by omega,trivial⟩,⟨rfl,by omega,trivial⟩,⟨rfl,by omega,trivial⟩,⟨rfl,by omega,trivial⟩,⟨rfl,by omega,trivial⟩,⟨rfl,by omega,trivial⟩,⟨rfl,by omega,trivial⟩,⟨rfl,by omega,trivial⟩,⟨rfl,by omega,trivial⟩,⟨rfl,by omega,trivial⟩,trivial⟩ (fun p hp=>by have:=hLB p hp; omega) (ih (upN hJ hat))
 ·intro hJ
  refine Run.of_wpK (hc w L0 none (fun _ h=>by cases h)) 1000 _ ?_
  conv=>whnf
  rw [decide_eq_false (show ¬ ((ins.length:Nat):Int)<(ins.length:Int) by omega)]
  conv=>whnf
  have hins:insChk x.n.inp ins=0:=by unfold insChk; exact firstN_all fun j hj=>hJ j hj hj
  have he2:rwChk x.rs.length rw0=e:=by rw [← he]; unfold stepChk; rw [if_neg hlt,hins]; rfl
  cases hz:((rw0.length:Int)==0)
  case true=>exact absurd (by rw [← he2]; unfold rwChk; rw [if_pos (by simpa using hz)]) hne
  conv=>whnf
  cases hz2:((rw0.length:Int) != (x.rs.length:Int))
  case true =>
   obtain rfl:e=13:=by rw [← he2]; unfold rwChk; rw [if_neg (by simpa using hz),if_pos (by simpa using hz2)]
   conv=>whnf
   exact SpecR.intro 27 (by decide) hLB (by decide) hcov rfl rfl ⟨trivial,trivial,trivial⟩ ⟨⟨rfl,by omega,by simp [lcells,SObj.sc,SV.scs,SV.sc]⟩,⟨by rw [oren_fix (S:=fun _=>False) (fun i hi=>hi.elim) (o := .row 2 x.n.N.length (s.st.flatMap Ste.cells) 139) (scs_st _ _)]; rfl,by omega,scs_st _ _⟩,⟨by rw [oren_fix (S:=fun _=>False) (fun i hi=>hi.elim) (o := .row 4 x.pl.length (s.m.flatMap Mrk.cells) 84) (scs_marks _ _)]; rfl,by omega,scs_marks _ _⟩,trivial⟩
  conv=>whnf
  refine Run.callE (g:=68) (vs:=[.opq 25,.v (.func (.func 69) #[] #[])]) (caps:=[]) (.v (.bool (rwBad rw0))) (fun ρ w1 hW=>contains_run _ rw0 w1 (hW.rowsAt rfl) hrw) (ent _ _ Try.func68 (by kernel_rfl) rfl) rfl rfl rfl rfl rfl rfl rfl trivial ?_
  have hz3:rwChk x.rs.length rw0=if rwBad rw0=true then 3 else 0:=by unfold rwChk; rw [if_neg (by simpa using hz),if_neg (by simpa using hz2)]
  cases hbd:rwBad rw0
  case false=>exact absurd (by rw [← he2,hz3,hbd]; rfl) hne
  obtain rfl:e=3:=by rw [← he2,hz3,hbd]; rfl
  refine Run.of_wpK (hc w L0 none (fun _ h=>by cases h)) 1000 _ ?_
  conv=>whnf
  exact SpecR.intro 27 (by decide) hLB (by decide) hcov rfl rfl ⟨trivial,trivial,trivial⟩ ⟨⟨rfl,by omega,by simp [lcells,SObj.sc,SV.scs,SV.sc]⟩,⟨by rw [oren_fix (S:=fun _=>False) (fun i hi=>hi.elim) (o := .row 2 x.n.N.length (s.st.flatMap Ste.cells) 139) (scs_st _ _)]; rfl,by omega,scs_st _ _⟩,⟨by rw [oren_fix (S:=fun _=>False) (fun i hi=>hi.elim) (o := .row 4 x.pl.length (s.m.flatMap Mrk.cells) 84) (scs_marks _ _)]; rfl,by omega,scs_marks _ _⟩,trivial⟩
theorem Step_ok (x:Lnt) (s:Lst) (ins rw0:List Int) (hx:NetOK x) (h:LInv x s) (he:stepChk x s ins rw0=0) (hin:ins.length<4611686018427387904) (hrw:rw0.length<4611686018427387904) :
  BSpec Try.prog 27 [.ptr 0 0,.opq 24,.opq 25] (lM x (lC x s) s++[(24,.rwin 1 ins.length (ints ins)),(25,.rwin 1 rw0.length (ints rw0))]) 26 [0,3,6] (.tup [.opq 27,ii 0])
   [(26,.kmap false true (sentE (lN x s ins (rwOf x.rs.length rw0) |>.sm (slotN s.tick)))),(27,.row 1 (lOut x s).length ((lOut x s).map fun x=>ii x) 3),(0,.cells (lcells (ii (W (s.tick+1))) x.n.inp (fun j => .mp (if j=slotN s.tick then 26 else 8+j)) (.mp 7)) 96),(3,.row 2 x.n.N.length ((lN x s ins (rwOf x.rs.length rw0)).st.flatMap Ste.cells) 139),(6,.row 4 x.pl.length ((lN x s ins (rwOf x.rs.length rw0)).m.flatMap Mrk.cells) 84)] 28:=by
 obtain ⟨hlt,hins,hrc⟩:=stepChk_ok he
 have ht0:=h.t0
 have hN1:=hx.N1
 have hinp0:=hx.inp0
 have hinp1:=hx.inp1
 have hRl:=hx.rl
 have hc : ∀ w L' rd,(∀ p,rd=some p→p∈L')→Cx.ok ⟨Try.prog,tab,pfStp,27,Try.f27,[],w,L',rd⟩:=fun w L' rd h=>⟨tab_ok,pfStp_ok,Try.func27,mixed,h⟩
 refine BSpec.start (tab:=tab) (pf:=pfStp) (cuts:=[]) Try.func27 rfl ⟨(show 0<26 by decide),(show 24<26 by decide),(show 25<26 by decide),trivial⟩ rfl fun w L0 plp hL hLB hcov=>Run.of_wpK (hc w L0 none (fun _ h=>by cases h)) 100 _ ?_
 conv=>whnf
 rw [decide_eq_true (show (0:Int)<(x.n.N.length:Int) by omega)]
 conv=>whnf
 rw [show decide ((10000:Int)≤s.tick)=false by simpa using hlt]
 conv=>whnf
 refine Run.trim (T':=[(0,.ptr 0 0),(1,.opq 24),(2,.opq 25),(21,.opq 24),(22,ii (ins.length:Int)),(23,ii (((0:Nat):Nat):Int))]) (M':=[(26,.pin plp),(0,.cells (lcells (ii s.tick) x.n.inp (fun k => .mp (8+k)) (.mp 7)) 96),(1,.rwin 8 x.n.N.length (x.n.N.flatMap Prm.vals)),(2,.rwin 4 x.n.S.length (x.n.S.flatMap Syn.vals)),(3,.row 2 x.n.N.length (s.st.flatMap Ste.cells) 139),(4,.rwin 10 x.rs.length (x.rs.flatMap Rul.vals)),(5,.rwin 1 x.pl.length (ints x.pl)),(6,.row 4 x.pl.length (s.m.flatMap Mrk.cells) 84),(7,.kwin true x.tot),(8,.kwin false (sentE (s.sm 0))),(9,.kwin false (sentE (s.sm 1))),(10,.kwin false (sentE (s.sm 2))),(11,.kwin false (sentE (s.sm 3))),(12,.kwin false (sentE (s.sm 4))),(13,.kwin false (sentE (s.sm 5))),(14,.kwin false (sentE (s.sm 6))),(15,.kwin false (sentE (s.sm 7))),(16,.kwin false (sentE (s.sm 8))),(17,.kwin false (sentE (s.sm 9))),(18,.kwin false (sentE (s.sm 10))),(19,.kwin false (sentE (s.sm 11))),(20,.kwin false (sentE (s.sm 12))),(21,.kwin false (sentE (s.sm 13))),(22,.kwin false (sentE (s.sm 14))),(23,.kwin false (sentE (s.sm 15))),(24,.rwin 1 ins.length (ints ins)),(25,.rwin 1 rw0.length (ints rw0))]) 27 ⟨⟨rfl,(show 0<27 by decide)⟩,⟨rfl,(show 24<27 by decide)⟩,⟨rfl,(show 25<27 by decide)⟩,⟨rfl,(show 24<27 by decide)⟩,⟨rfl,trivial⟩,⟨rfl,trivial⟩,trivial⟩ ⟨⟨rfl,by omega,fun p hp=>Nat.lt_of_lt_of_le (hcov.1 p hp) (show 26≤27 by decide)⟩,⟨rfl,by omega,by simp [lcells,SObj.sc,SV.scs,SV.sc]⟩,⟨rfl,by omega,trivial⟩,⟨rfl,by omega,trivial⟩,⟨rfl,by omega,scs_st _ _⟩,⟨rfl,by omega,trivial⟩,⟨rfl,by omega,trivial⟩,⟨rfl,by omega,scs_marks _ _⟩,⟨rfl,by omega,trivial⟩,⟨rfl,by omega,trivial⟩,⟨rfl,by omega,trivial⟩,⟨rfl,by omega,trivial⟩,⟨rfl,by omega,trivial⟩,⟨rfl,by omega,trivial⟩,⟨rfl,by omega,trivial⟩,⟨rfl,by omega,trivial⟩,⟨rfl,by omega,trivial⟩,⟨rfl,by omega,trivial⟩,⟨rfl,by omega,trivial⟩,⟨rfl,by omega,trivial⟩,⟨rfl,by omega,trivial⟩,⟨rfl,by omega,trivial⟩,⟨rfl,by omega,trivial⟩,⟨rfl,by omega,trivial⟩,⟨rfl,by omega,trivial⟩,⟨rfl,by omega,trivial⟩,⟨rfl,by omega,trivial⟩,trivial⟩ (fun p hp=>by have:=hLB p hp; omega) ?_
 refine Run.upToJ (T:=fun i=>[(0,.ptr 0 0),(1,.opq 24),(2,.opq 25),(21,.opq 24),(22,ii (ins.length:Int)),(23,ii ((i:Nat):Int))]) (M:=fun i=>[(26,.pin plp),(0,.cells (lcells (ii s.tick) x.n.inp (fun k => .mp (8+k)) (.mp 7)) 96),(1,.rwin 8 x.n.N.length (x.n.N.flatMap Prm.vals)),(2,.rwin 4 x.n.S.length (x.n.S.flatMap Syn.vals)),(3,.row 2 x.n.N.length (s.st.flatMap Ste.cells) 139),(4,.rwin 10 x.rs.length (x.rs.flatMap Rul.vals)),(5,.rwin 1 x.pl.length (ints x.pl)),(6,.row 4 x.pl.length (s.m.flatMap Mrk.cells) 84),(7,.kwin true x.tot),(8,.kwin false (sentE (s.sm 0))),(9,.kwin false (sentE (s.sm 1))),(10,.kwin false (sentE (s.sm 2))),(11,.kwin false (sentE (s.sm 3))),(12,.kwin false (sentE (s.sm 4))),(13,.kwin false (sentE (s.sm 5))),(14,.kwin false (sentE (s.sm 6))),(15,.kwin false (sentE (s.sm 7))),(16,.kwin false (sentE (s.sm 8))),(17,.kwin false (sentE (s.sm 9))),(18,.kwin false (sentE (s.sm 10))),(19,.kwin false (sentE (s.sm 11))),(20,.kwin false (sentE (s.sm 12))),(21,.kwin false (sentE (s.sm 13))),(22,.kwin false (sentE (s.sm 14))),(23,.kwin false (sentE (s.sm 15))),(24,.rwin 1 ins.length (ints ins)),(25,.rwin 1 rw0.length (ints rw0))]) (fun i => ∀ j,j<ins.length→j<i→inAt x.n.inp ins j=0) (ins.length) ?_ ?_ ?_
 ·exact fun j _ h=>by omega
 ·intro i hi hJ ih
  refine Run.of_wpK (hc w L0 none (fun _ h=>by cases h)) 1000 _ ?_
  conv=>whnf
  rw [decide_eq_true (show ((i:Nat):Int)<(ins.length:Int) by omega)]
  conv=>whnf
  refine ⟨by omega,?_⟩
  conv=>whnf
  rw [opF_load1 i rfl rfl rfl rfl (by rw [idx_nat,Nat.mul_one]) (ints_get hi)]
  conv=>whnf
  have hgi:ins.getD i 0=ins[i]:=by simp [List.getD_eq_getElem?_getD,hi]
  cases hb:wi ins[i] 0 (IntKind.i64.wrap (x.n.inp-1))
  case false =>
   have hat:inAt x.n.inp ins i=3:=by unfold inAt; rw [hgi,show wi ins[i] 0 (W (x.n.inp-1))=false from hb]; rfl
   have hck:insChk x.n.inp ins=3:=by unfold insChk; rw [firstN_at hi hJ (by rw [hat]; decide),hat]
   exact absurd (hck.symm.trans hins) (by decide)
  have hb2:wi ins[i] 0 (W (x.n.inp-1))=true:=hb
  conv=>whnf
  by_cases hi0:i=0
  ·subst hi0
   conv=>whnf
   have hat:inAt x.n.inp ins 0=0:=by unfold inAt; rw [hgi,hb2]; simp only [Bool.true_eq_false,if_false]; rw [if_neg (fun h=>absurd h.1 (by decide))]
   exact Run.trim (T':=[(0,.ptr 0 0),(1,.opq 24),(2,.opq 25),(21,.opq 24),(22,ii (ins.length:Int)),(23,ii (((0+1:Nat):Nat):Int))]) (M':=[(26,.pin plp),(0,.cells (lcells (ii s.tick) x.n.inp (fun k => .mp (8+k)) (.mp 7)) 96),(1,.rwin 8 x.n.N.length (x.n.N.flatMap Prm.vals)),(2,.rwin 4 x.n.S.length (x.n.S.flatMap Syn.vals)),(3,.row 2 x.n.N.length (s.st.flatMap Ste.cells) 139),(4,.rwin 10 x.rs.length (x.rs.flatMap Rul.vals)),(5,.rwin 1 x.pl.length (ints x.pl)),(6,.row 4 x.pl.length (s.m.flatMap Mrk.cells) 84),(7,.kwin true x.tot),(8,.kwin false (sentE (s.sm 0))),(9,.kwin false (sentE (s.sm 1))),(10,.kwin false (sentE (s.sm 2))),(11,.kwin false (sentE (s.sm 3))),(12,.kwin false (sentE (s.sm 4))),(13,.kwin false (sentE (s.sm 5))),(14,.kwin false (sentE (s.sm 6))),(15,.kwin false (sentE (s.sm 7))),(16,.kwin false (sentE (s.sm 8))),(17,.kwin false (sentE (s.sm 9))),(18,.kwin false (sentE (s.sm 10))),(19,.kwin false (sentE (s.sm 11))),(20,.kwin false (sentE (s.sm 12))),(21,.kwin false (sentE (s.sm 13))),(22,.kwin false (sentE (s.sm 14))),(23,.kwin false (sentE (s.sm 15))),(24,.rwin 1 ins.length (ints ins)),(25,.rwin 1 rw0.length (ints rw0))]) 27 ⟨⟨rfl,(show 0<27 by decide)⟩,⟨rfl,(show 24<27 by decide)⟩,⟨rfl,(show 25<27 by decide)⟩,⟨rfl,(show 24<27 by decide)⟩,⟨rfl,trivial⟩,⟨congrArg some (congrArg ii (wrap_succ (by omega))),trivial⟩,trivial⟩ ⟨⟨rfl,by omega,fun p hp=>Nat.lt_of_lt_of_le (hcov.1 p hp) (show 26≤27 by decide)⟩,⟨rfl,by omega,by simp [lcells,SObj.sc,SV.scs,SV.sc]⟩,⟨rfl,by omega,trivial⟩,⟨rfl,by omega,trivial⟩,⟨rfl,by omega,scs_st _ _⟩,⟨rfl,by omega,trivial⟩,⟨rfl,by omega,trivial⟩,⟨rfl,by omega,scs_marks _ _⟩,⟨rfl,by omega,trivial⟩,⟨rfl,by omega,trivial⟩,⟨rfl,by omega,trivial⟩,⟨rfl,by omega,trivial⟩,⟨rfl,by omega,trivial⟩,⟨rfl,by omega,trivial⟩,⟨rfl,by omega,trivial⟩,⟨rfl,by omega,trivial⟩,⟨rfl,by omega,trivial⟩,⟨rfl,by omega,trivial⟩,⟨rfl,by omega,trivial⟩,⟨rfl,by omega,trivial⟩,⟨rfl,by omega,trivial⟩,⟨rfl,by omega,trivial⟩,⟨rfl,by omega,trivial⟩,⟨rfl,by omega,trivial⟩,⟨rfl,by omega,trivial⟩,⟨rfl,by omega,trivial⟩,⟨rfl,by omega,trivial⟩,trivial⟩ (fun p hp=>by have:=hLB p hp; omega) (ih (upN hJ hat))
  have hw1:IntKind.i64.wrap ((i:Int)-1)=((i-1:Nat):Int):=by
   rw [show (i:Int)-1=((i-1:Nat):Int) by omega]
   exact W_id (by omega) (by omega)
  rw [show decide ((0:Int)<((i:Nat):Int))=true by rw [decide_eq_true_eq]; omega]
  conv=>whnf
  refine ⟨by show 0≤IntKind.i64.wrap ((i:Int)-1)∧IntKind.i64.wrap ((i:Int)-1)<(ins.length:Int); rw [hw1]; omega,?_⟩
  conv=>whnf
  rw [opF_load1 (i-1) rfl rfl rfl rfl (by show idx (IntKind.i64.wrap ((i:Int)-1)) 1=_; rw [hw1]; rfl) (ints_get (by omega))]
  conv=>whnf
  have hgp:ins.getD (i-1) 0=ins[i-1]:=by simp [List.getD_eq_getElem?_getD,show i-1<ins.length by omega]
  cases hq:decide (ins[i]≤ins[i-1])
  case true =>
   have hat:inAt x.n.inp ins i=2:=by unfold inAt; rw [hgi,hgp,hb2]; simp only [Bool.true_eq_false,if_false]; rw [if_pos ⟨by omega,of_decide_eq_true hq⟩]
   have hck:insChk x.n.inp ins=2:=by unfold insChk; rw [firstN_at hi hJ (by rw [hat]; decide),hat]
   exact absurd (hck.symm.trans hins) (by decide)
  have hat:inAt x.n.inp ins i=0:=by unfold inAt; rw [hgi,hgp,hb2]; simp only [Bool.true_eq_false,if_false]; rw [if_neg (fun h=>of_decide_eq_false hq h.2)]
  conv=>whnf
  exact Run.trim (T':=[(0,.ptr 0 0),(1,.opq 24),(2,.opq 25),(21,.opq 24),(22,ii (ins.length:Int)),(23,ii (((i+1:Nat):Nat):Int))]) (M':=[(26,.pin plp),(0,.cells (lcells (ii s.tick) x.n.inp (fun k => .mp (8+k)) (.mp 7)) 96),(1,.rwin 8 x.n.N.length (x.n.N.flatMap Prm.vals)),(2,.rwin 4 x.n.S.length (x.n.S.flatMap Syn.vals)),(3,.row 2 x.n.N.length (s.st.flatMap Ste.cells) 139),(4,.rwin 10 x.rs.length (x.rs.flatMap Rul.vals)),(5,.rwin 1 x.pl.length (ints x.pl)),(6,.row 4 x.pl.length (s.m.flatMap Mrk.cells) 84),(7,.kwin true x.tot),(8,.kwin false (sentE (s.sm 0))),(9,.kwin false (sentE (s.sm 1))),(10,.kwin false (sentE (s.sm 2))),(11,.kwin false (sentE (s.sm 3))),(12,.kwin false (sentE (s.sm 4))),(13,.kwin false (sentE (s.sm 5))),(14,.kwin false (sentE (s.sm 6))),(15,.kwin false (sentE (s.sm 7))),(16,.kwin false (sentE (s.sm 8))),(17,.kwin false (sentE (s.sm 9))),(18,.kwin false (sentE (s.sm 10))),(19,.kwin false (sentE (s.sm 11))),(20,.kwin false (sentE (s.sm 12))),(21,.kwin false (sentE (s.sm 13))),(22,.kwin false (sentE (s.sm 14))),(23,.kwin false (sentE (s.sm 15))),(24,.rwin 1 ins.length (ints ins)),(25,.rwin 1 rw0.length (ints rw0))]) 27 ⟨⟨rfl,(show 0<27 by decide)⟩,⟨rfl,(show 24<27 by decide)⟩,⟨rfl,(show 25<27 by decide)⟩,⟨rfl,(show 24<27 by decide)⟩,⟨rfl,trivial⟩,⟨congrArg some (congrArg ii (wrap_succ (by omega))),trivial⟩,trivial⟩ ⟨⟨rfl,by omega,fun p hp=>Nat.lt_of_lt_of_le (hcov.1 p hp) (show 26≤27 by decide)⟩,⟨rfl,by omega,by simp [lcells,SObj.sc,SV.scs,SV.sc]⟩,⟨rfl,by omega,trivial⟩,⟨rfl,by omega,trivial⟩,⟨rfl,by omega,scs_st _ _⟩,⟨rfl,by omega,trivial⟩,⟨rfl,by omega,trivial⟩,⟨rfl,by omega,scs_marks _ _⟩,⟨rfl,by omega,trivial⟩,⟨rfl,by omega,trivial⟩,⟨rfl,by omega,trivial⟩,⟨rfl,by omega,trivial⟩,⟨rfl,by omega,trivial⟩,⟨rfl,by omega,trivial⟩,⟨rfl,by omega,trivial⟩,⟨rfl,by omega,trivial⟩,⟨rfl,by omega,trivial⟩,⟨rfl,by omega,trivial⟩,⟨rfl,by omega,trivial⟩,⟨rfl,by omega,trivial⟩,⟨rfl,by omega,trivial⟩,⟨rfl,by omega,trivial⟩,⟨rfl,by omega,trivial⟩,⟨rfl,by omega,trivial⟩,⟨rfl,by omega,trivial⟩,⟨rfl,by omega,trivial⟩,⟨rfl,by omega,trivial⟩,trivial⟩ (fun p hp=>by have:=hLB p hp; omega) (ih (upN hJ hat))
 ·intro hJ
  refine Run.of_wpK (hc w L0 none (fun _ h=>by cases h)) 1000 _ ?_
  conv=>whnf
  rw [decide_eq_false (show ¬ ((ins.length:Nat):Int)<(ins.length:Int) by omega)]
  conv=>whnf
  have hlr:=rwOf_len hrc
  have hstep:=lstep_spec hx h (by omega) ins (rwOf x.rs.length rw0) hin hlr
  cases hz:((rw0.length:Int)==0)
  case true =>
   have hro:rwOf x.rs.length rw0=List.replicate x.rs.length 0:=by unfold rwOf; rw [if_pos (by simpa using hz)]
   conv=>whnf
   rw [opF_make (m:=x.rs.length) rfl rfl rfl rfl rfl rfl (by omega) (by omega),show List.replicate x.rs.length (SV.v (.int .i64 0))=(rwOf x.rs.length rw0).map fun x=>ii x by rw [hro,List.map_replicate]]
   conv=>whnf
   refine Run.callR (vs:=[.ptr 0 0,.opq 24,.opq 25]) (caps:=[]) (caps2:=[]) hstep (ent _ _ Try.func52 (by kernel_rfl) rfl) rfl rfl rfl rfl rfl rfl [.ptr 0 0,.opq 24,.opq 27] rfl (rq [(25,27),(27,25)]) rfl (fun q hq=>by have inv : ∀ q,q<26→rq [(25,27),(27,25)] q<28:=(by decide); exact inv q hq) (fun q hq j hj hne=>by have inj : ∀ i,i<26 → ∀ j,j<26→i≠j→rq [(25,27),(27,25)] i≠rq [(25,27),(27,25)] j:=(by decide); exact inj q hq j hj hne) (by decide)
    ⟨⟨by omega,by simp [lC,lcells,SObj.sc,SV.scs,SV.sc],⟨_,rfl,Conv.refl _⟩,.inr (by simp),fun h=>by cases h⟩,⟨by omega,trivial,⟨_,rfl,Conv.refl _⟩,.inl rfl,fun _=>by simp⟩,⟨by omega,trivial,⟨_,rfl,Conv.refl _⟩,.inl rfl,fun _=>by simp⟩,⟨by omega,scs_st _ _,⟨_,rfl,by rw [oren_fix (S:=fun _=>False) (fun i hi=>hi.elim) (o := .row 2 x.n.N.length (s.st.flatMap Ste.cells) 139) (scs_st _ _)]; exact Conv.refl _⟩,.inr (by simp),fun h=>by cases h⟩,⟨by omega,trivial,⟨_,rfl,Conv.refl _⟩,.inl rfl,fun _=>by simp⟩,⟨by omega,trivial,⟨_,rfl,Conv.refl _⟩,.inl rfl,fun _=>by simp⟩,⟨by omega,scs_marks _ _,⟨_,rfl,by rw [oren_fix (S:=fun _=>False) (fun i hi=>hi.elim) (o := .row 4 x.pl.length (s.m.flatMap Mrk.cells) 84) (scs_marks _ _)]; exact Conv.refl _⟩,.inr (by simp),fun h=>by cases h⟩,⟨by omega,trivial,⟨_,rfl,Conv.refl _⟩,.inl rfl,fun _=>by simp⟩,⟨by omega,trivial,⟨_,rfl,Conv.refl _⟩,.inl rfl,fun _=>by simp⟩,⟨by omega,trivial,⟨_,rfl,Conv.refl _⟩,.inl rfl,fun _=>by simp⟩,⟨by omega,trivial,⟨_,rfl,Conv.refl _⟩,.inl rfl,fun _=>by simp⟩,⟨by omega,trivial,⟨_,rfl,Conv.refl _⟩,.inl rfl,fun _=>by simp⟩,⟨by omega,trivial,⟨_,rfl,Conv.refl _⟩,.inl rfl,fun _=>by simp⟩,⟨by omega,trivial,⟨_,rfl,Conv.refl _⟩,.inl rfl,fun _=>by simp⟩,⟨by omega,trivial,⟨_,rfl,Conv.refl _⟩,.inl rfl,fun _=>by simp⟩,⟨by omega,trivial,⟨_,rfl,Conv.refl _⟩,.inl rfl,fun _=>by simp⟩,⟨by omega,trivial,⟨_,rfl,Conv.refl _⟩,.inl rfl,fun _=>by simp⟩,⟨by omega,trivial,⟨_,rfl,Conv.refl _⟩,.inl rfl,fun _=>by simp⟩,⟨by omega,trivial,⟨_,rfl,Conv.refl _⟩,.inl rfl,fun _=>by simp⟩,⟨by omega,trivial,⟨_,rfl,Conv.refl _⟩,.inl rfl,fun _=>by simp⟩,⟨by omega,trivial,⟨_,rfl,Conv.refl _⟩,.inl rfl,fun _=>by simp⟩,⟨by omega,trivial,⟨_,rfl,Conv.refl _⟩,.inl rfl,fun _=>by simp⟩,⟨by omega,trivial,⟨_,rfl,Conv.refl _⟩,.inl rfl,fun _=>by simp⟩,⟨by omega,trivial,⟨_,rfl,Conv.refl _⟩,.inl rfl,fun _=>by simp⟩,⟨by omega,trivial,⟨_,rfl,Conv.refl _⟩,.inl rfl,fun _=>by simp⟩,⟨by omega,trivial,⟨_,rfl,by rw [hlr]; exact Conv.row (by decide) (ints_iv _)⟩,.inl rfl,fun _=>by simp⟩,trivial⟩ (fun q hq=>by
     have hq2:q=0∨q=3∨q=6:=by simpa using hq
     rcases hq2 with rfl | rfl | rfl <;> exact ⟨by omega,_,rfl⟩) (.opq 29) [(28,.kmap false true (sentE (sendL (lB x s).2.2 ins))),(29,(.row 1 (lOut x s).length ((lOut x s).map fun x=>ii x) 3)),(0,(SObj.cells (lcells (ii (W (s.tick+1))) x.n.inp (fun j => .mp (if j=slotN s.tick then 26 else 8+j)) (.mp 7)) 96).ren (shR (rq [(25,27),(27,25)]) 26 28)),(3,.row 2 x.n.N.length ((lB x s).1.flatMap Ste.cells) 139),(6,.row 4 x.pl.length ((lR x s (rwOf x.rs.length rw0)).flatMap Mrk.cells) 84),(26,.pin plp)] 30 rfl rfl
    ⟨.inr ⟨26,_,rfl,rfl,rfl,rfl⟩,.inr ⟨27,_,rfl,rfl,(oren_fix (S:=fun _=>False) (fun i hi=>hi.elim) (o:=(.row 1 (lOut x s).length ((lOut x s).map fun x=>ii x) 3)) (scs_i _ _)).symm,rfl⟩,.inr ⟨0,_,rfl,rfl,rfl,rfl⟩,.inr ⟨3,_,rfl,rfl,(oren_fix (S:=fun _=>False) (fun i hi=>hi.elim) (o := .row 2 x.n.N.length ((lB x s).1.flatMap Ste.cells) 139) (scs_st _ _)).symm,rfl⟩,.inr ⟨6,_,rfl,rfl,(oren_fix (S:=fun _=>False) (fun i hi=>hi.elim) (o := .row 4 x.pl.length ((lR x s (rwOf x.rs.length rw0)).flatMap Mrk.cells) 84) (scs_marks _ _)).symm,rfl⟩,.inl ⟨rfl,fun i hi=>by
     have hi2:i=0∨i=3∨i=6:=by simpa using hi
     have hd:(rq [(25,27),(27,25)]) 0≠26∧(rq [(25,27),(27,25)]) 3≠26∧(rq [(25,27),(27,25)]) 6≠26:=by decide
     rcases hi2 with rfl | rfl | rfl
     ·exact hd.1
     ·exact hd.2.1
     ·exact hd.2.2⟩,trivial⟩ ?_
   refine Run.of_wpK (hc w L0 none (fun _ h=>by cases h)) 1000 _ ?_
   conv=>whnf
   obtain ⟨k,hk⟩ : ∃ k,slotN s.tick=k:=⟨_,rfl⟩
   rw [hk]
   refine SpecR.intro 28 (by decide) hLB (by decide) hcov rfl rfl ⟨(show 27<28 by decide),trivial,trivial⟩ ⟨⟨?_,by omega,trivial⟩,⟨?_,by omega,scs_i _ _⟩,⟨?_,by omega,lcells_sc (S:=(· < 28)) (fun i hi=>by show i<28; omega) _ _ _ _ (by show 26<28; decide)⟩,⟨?_,by omega,scs_st _ _⟩,⟨?_,by omega,scs_marks _ _⟩,trivial⟩
   ·rw [← hk]
    show _=some (SObj.kmap false true (sentE (if slotN s.tick=slotN s.tick then sendL (lB x s).2.2 ins else s.sm (slotN s.tick))))
    rw [if_pos rfl]; rfl
   ·rw [oren_fix (S:=fun _=>False) (fun i hi=>hi.elim) (o:=(.row 1 (lOut x s).length ((lOut x s).map fun x=>ii x) 3)) (scs_i _ _)]; rfl
   ·show some (SObj.cells (SV.rens _ _) 96)=some (SObj.cells (SV.rens _ _) 96)
    rw [lcells_ren (fun i hi=>by show shR (rq [(25,27),(27,25)]) 26 28 i=i; rw [shR_lt (by omega)]; exact rq_fix (rq_noneB (B:=25) rfl (by omega))),lcells_ren (fun i hi=>sh_lt (by omega))]
    rfl
   ·rw [oren_fix (S:=fun _=>False) (fun i hi=>hi.elim) (o := .row 2 x.n.N.length ((lN x s ins (rwOf x.rs.length rw0)).st.flatMap Ste.cells) 139) (scs_st _ _)]; rfl
   ·rw [oren_fix (S:=fun _=>False) (fun i hi=>hi.elim) (o := .row 4 x.pl.length ((lN x s ins (rwOf x.rs.length rw0)).m.flatMap Mrk.cells) 84) (scs_marks _ _)]; rfl
  have hro:rwOf x.rs.length rw0=rw0:=by unfold rwOf; rw [if_neg (by simpa using hz)]
  rw [hro] at hstep hlr ⊢
  conv=>whnf
  rw [show ((rw0.length:Int) != (x.rs.length:Int))=false by simp [hlr]]
  conv=>whnf
  have hbd:rwBad rw0=false:=by
   unfold rwChk at hrc
   rw [if_neg (by simpa using hz),if_neg (by omega)] at hrc
   cases hb:rwBad rw0 with
   | false=>rfl
   | true=>rw [hb] at hrc; cases hrc
  refine Run.callE (g:=68) (vs:=[.opq 25,.v (.func (.func 69) #[] #[])]) (caps:=[]) (.v (.bool false)) (fun ρ w1 hW=>by
   have:=contains_run _ rw0 w1 (hW.rowsAt (i:=25) rfl) hrw
   rw [hbd] at this
   exact this) (ent _ _ Try.func68 (by kernel_rfl) rfl) rfl rfl rfl rfl rfl rfl rfl trivial ?_
  refine Run.of_wpK (hc w L0 none (fun _ h=>by cases h)) 1000 _ ?_
  conv=>whnf
  refine Run.callR (vs:=[.ptr 0 0,.opq 24,.opq 25]) (caps:=[]) (caps2:=[]) hstep (ent _ _ Try.func52 (by kernel_rfl) rfl) rfl rfl rfl rfl rfl rfl [.ptr 0 0,.opq 24,.opq 25] rfl id rfl (fun q hq=>by show q<27; omega) (fun q hq j hj hne=>by exact hne) (by decide)
   ⟨⟨by omega,by simp [lC,lcells,SObj.sc,SV.scs,SV.sc],⟨_,rfl,Conv.refl _⟩,.inr (by simp),fun h=>by cases h⟩,⟨by omega,trivial,⟨_,rfl,Conv.refl _⟩,.inl rfl,fun _=>by simp⟩,⟨by omega,trivial,⟨_,rfl,Conv.refl _⟩,.inl rfl,fun _=>by simp⟩,⟨by omega,scs_st _ _,⟨_,rfl,by rw [oren_fix (S:=fun _=>False) (fun i hi=>hi.elim) (o := .row 2 x.n.N.length (s.st.flatMap Ste.cells) 139) (scs_st _ _)]; exact Conv.refl _⟩,.inr (by simp),fun h=>by cases h⟩,⟨by omega,trivial,⟨_,rfl,Conv.refl _⟩,.inl rfl,fun _=>by simp⟩,⟨by omega,trivial,⟨_,rfl,Conv.refl _⟩,.inl rfl,fun _=>by simp⟩,⟨by omega,scs_marks _ _,⟨_,rfl,by rw [oren_fix (S:=fun _=>False) (fun i hi=>hi.elim) (o := .row 4 x.pl.length (s.m.flatMap Mrk.cells) 84) (scs_marks _ _)]; exact Conv.refl _⟩,.inr (by simp),fun h=>by cases h⟩,⟨by omega,trivial,⟨_,rfl,Conv.refl _⟩,.inl rfl,fun _=>by simp⟩,⟨by omega,trivial,⟨_,rfl,Conv.refl _⟩,.inl rfl,fun _=>by simp⟩,⟨by omega,trivial,⟨_,rfl,Conv.refl _⟩,.inl rfl,fun _=>by simp⟩,⟨by omega,trivial,⟨_,rfl,Conv.refl _⟩,.inl rfl,fun _=>by simp⟩,⟨by omega,trivial,⟨_,rfl,Conv.refl _⟩,.inl rfl,fun _=>by simp⟩,⟨by omega,trivial,⟨_,rfl,Conv.refl _⟩,.inl rfl,fun _=>by simp⟩,⟨by omega,trivial,⟨_,rfl,Conv.refl _⟩,.inl rfl,fun _=>by simp⟩,⟨by omega,trivial,⟨_,rfl,Conv.refl _⟩,.inl rfl,fun _=>by simp⟩,⟨by omega,trivial,⟨_,rfl,Conv.refl _⟩,.inl rfl,fun _=>by simp⟩,⟨by omega,trivial,⟨_,rfl,Conv.refl _⟩,.inl rfl,fun _=>by simp⟩,⟨by omega,trivial,⟨_,rfl,Conv.refl _⟩,.inl rfl,fun _=>by simp⟩,⟨by omega,trivial,⟨_,rfl,Conv.refl _⟩,.inl rfl,fun _=>by simp⟩,⟨by omega,trivial,⟨_,rfl,Conv.refl _⟩,.inl rfl,fun _=>by simp⟩,⟨by omega,trivial,⟨_,rfl,Conv.refl _⟩,.inl rfl,fun _=>by simp⟩,⟨by omega,trivial,⟨_,rfl,Conv.refl _⟩,.inl rfl,fun _=>by simp⟩,⟨by omega,trivial,⟨_,rfl,Conv.refl _⟩,.inl rfl,fun _=>by simp⟩,⟨by omega,trivial,⟨_,rfl,Conv.refl _⟩,.inl rfl,fun _=>by simp⟩,⟨by omega,trivial,⟨_,rfl,Conv.refl _⟩,.inl rfl,fun _=>by simp⟩,⟨by omega,trivial,⟨_,rfl,Conv.refl _⟩,.inl rfl,fun _=>by simp⟩,trivial⟩ (fun q hq=>by
    have hq2:q=0∨q=3∨q=6:=by simpa using hq
    rcases hq2 with rfl | rfl | rfl <;> exact ⟨by omega,_,rfl⟩) (.opq 28) [(27,.kmap false true (sentE (sendL (lB x s).2.2 ins))),(28,(.row 1 (lOut x s).length ((lOut x s).map fun x=>ii x) 3)),(0,(SObj.cells (lcells (ii (W (s.tick+1))) x.n.inp (fun j => .mp (if j=slotN s.tick then 26 else 8+j)) (.mp 7)) 96).ren (shR id 26 27)),(3,.row 2 x.n.N.length ((lB x s).1.flatMap Ste.cells) 139),(6,.row 4 x.pl.length ((lR x s rw0).flatMap Mrk.cells) 84),(26,.pin plp)] 29 rfl rfl
   ⟨.inr ⟨26,_,rfl,rfl,rfl,rfl⟩,.inr ⟨27,_,rfl,rfl,(oren_fix (S:=fun _=>False) (fun i hi=>hi.elim) (o:=(.row 1 (lOut x s).length ((lOut x s).map fun x=>ii x) 3)) (scs_i _ _)).symm,rfl⟩,.inr ⟨0,_,rfl,rfl,rfl,rfl⟩,.inr ⟨3,_,rfl,rfl,(oren_fix (S:=fun _=>False) (fun i hi=>hi.elim) (o := .row 2 x.n.N.length ((lB x s).1.flatMap Ste.cells) 139) (scs_st _ _)).symm,rfl⟩,.inr ⟨6,_,rfl,rfl,(oren_fix (S:=fun _=>False) (fun i hi=>hi.elim) (o := .row 4 x.pl.length ((lR x s rw0).flatMap Mrk.cells) 84) (scs_marks _ _)).symm,rfl⟩,.inl ⟨rfl,fun i hi=>by
    have hi2:i=0∨i=3∨i=6:=by simpa using hi
    have hd:id 0≠26∧id 3≠26∧id 6≠26:=by decide
    rcases hi2 with rfl | rfl | rfl
    ·exact hd.1
    ·exact hd.2.1
    ·exact hd.2.2⟩,trivial⟩ ?_
  refine Run.of_wpK (hc w L0 none (fun _ h=>by cases h)) 1000 _ ?_
  conv=>whnf
  obtain ⟨k,hk⟩ : ∃ k,slotN s.tick=k:=⟨_,rfl⟩
  rw [hk]
  refine SpecR.intro 27 (by decide) hLB (by decide) hcov rfl rfl ⟨(show 27<28 by decide),trivial,trivial⟩ ⟨⟨?_,by omega,trivial⟩,⟨?_,by omega,scs_i _ _⟩,⟨?_,by omega,lcells_sc (S:=(· < 28)) (fun i hi=>by show i<28; omega) _ _ _ _ (by show 26<28; decide)⟩,⟨?_,by omega,scs_st _ _⟩,⟨?_,by omega,scs_marks _ _⟩,trivial⟩
  ·rw [← hk]
   show _=some (SObj.kmap false true (sentE (if slotN s.tick=slotN s.tick then sendL (lB x s).2.2 ins else s.sm (slotN s.tick))))
   rw [if_pos rfl]; rfl
  ·rw [oren_fix (S:=fun _=>False) (fun i hi=>hi.elim) (o:=(.row 1 (lOut x s).length ((lOut x s).map fun x=>ii x) 3)) (scs_i _ _)]; rfl
  ·show some (SObj.cells (SV.rens _ _) 96)=some (SObj.cells (SV.rens _ _) 96)
   rw [lcells_ren (fun i hi=>by show shR id 26 27 i=i; rw [shR_lt (by omega)]; exact rfl),lcells_ren (fun i hi=>sh_lt (by omega))]
   rfl
  ·rw [oren_fix (S:=fun _=>False) (fun i hi=>hi.elim) (o := .row 2 x.n.N.length ((lN x s ins rw0).st.flatMap Ste.cells) 139) (scs_st _ _)]; rfl
  ·rw [oren_fix (S:=fun _=>False) (fun i hi=>hi.elim) (o := .row 4 x.pl.length ((lN x s ins rw0).m.flatMap Mrk.cells) 84) (scs_marks _ _)]; rfl
end Go.Proofs.Ytnnlpdgnlccbjaa
namespace Go.Proofs.Ytnnlpdgnlccbjaa
open Go.Sx
set_option maxRecDepth 100000
set_option maxHeartbeats 8000000
/-- The inputs that have events in a tick. -/
def atStep (t:Int) (a:List Int) (e:Evt):List Int:=if (e.tick==t)=true then a++[e.id] else a
def atIn (l:List Evt) (t:Int):List Int:=l.foldl (atStep t) []
def atY (l:List Evt) (t:Int) (j:Nat):List Int:=(l.take j).foldl (atStep t) []
theorem atY_succ {l:List Evt} {t:Int} {j:Nat} (h:j<l.length):atY l t (j+1)=atStep t (atY l t j) l[j]:=by
 unfold atY
 rw [← List.take_append_getElem h,List.foldl_append]; rfl
theorem atY_len (l:List Evt) (t:Int) : ∀ j,j≤l.length→(atY l t j).length≤j
 | 0,_=>by simp [atY]
 | j+1,h=>by
  have:=atY_len l t j (by omega)
  rw [atY_succ (by omega)]
  unfold atStep
  split
  ·simp; omega
  ·omega
/-- The rewards of a tick. -/
def rwStep (t:Int) (a:List Int) (z:Prz):List Int:=if (z.tick==t&&(decide (0≤z.id)&&decide (z.id<(a.length:Int))))=true then a.set z.id.toNat z.val else a
def atRw (R:Nat) (p:List Prz) (t:Int):List Int:=p.foldl (rwStep t) (List.replicate R 0)
def rzY (R:Nat) (p:List Prz) (t:Int) (j:Nat):List Int:=(p.take j).foldl (rwStep t) (List.replicate R 0)
theorem rzY_succ {R:Nat} {p:List Prz} {t:Int} {j:Nat} (h:j<p.length):rzY R p t (j+1)=rwStep t (rzY R p t j) p[j]:=by
 unfold rzY
 rw [← List.take_append_getElem h,List.foldl_append]; rfl
theorem rwFold_len (t:Int) : ∀ (p:List Prz) (a:List Int),(p.foldl (rwStep t) a).length=a.length
 | [],_=>rfl
 | z::p,a=>by
  rw [List.foldl_cons,rwFold_len t p]
  unfold rwStep
  split
  ·simp
  ·rfl
theorem rzY_len (R:Nat) (p:List Prz) (t:Int) (j:Nat):(rzY R p t j).length=R:=by unfold rzY; rw [rwFold_len,List.length_replicate]
theorem atRw_len (R:Nat) (p:List Prz) (t:Int):(atRw R p t).length=R:=by unfold atRw; rw [rwFold_len,List.length_replicate]
/-- What 'at' looks at. -/
def atM (rs:List Rul) (l:List Evt) (p:List Prz):List (Nat × SObj):=[(2,.rwin 10 rs.length (rs.flatMap Rul.vals)),(4,.rwin 2 l.length (l.flatMap Evt.vals)),(5,.rwin 3 p.length (p.flatMap Prz.vals))]
theorem at_spec (inp K t:Int) (rs:List Rul) (l:List Evt) (p:List Prz) (hr:rs.length≤1000) (hl:l.length≤100000) (hp:p.length<4611686018427387904) :
  BSpec Try.prog 26 [.agg [.opq 0,ii inp,.opq 1,.opq 2,.opq 3,.opq 4,.opq 5,ii K],ii t] (atM rs l p) 6 [] (.tup [.opq 6,.opq 7]) [(6,.row 1 (atIn l t).length ((atIn l t).map fun x=>ii x) 3),(7,.row 1 rs.length ((atRw rs.length p t).map fun x=>ii x) 3)] 8:=by
 have hpf:PF.oks Try.prog [(2000,fun _ _=>none)]:=⟨trivial,trivial⟩
 have hc : ∀ w L' rd,(∀ p,rd=some p→p∈L')→Cx.ok ⟨Try.prog,tab,[(2000,fun _ _=>none)],26,Try.f26,[],w,L',rd⟩:=fun w L' rd h=>⟨tab_ok,hpf,Try.func26,mixed,h⟩
 refine BSpec.start (tab:=tab) (pf:=[(2000,fun _ _=>none)]) (cuts:=[]) Try.func26 rfl ⟨⟨(show 0<6 by decide),trivial,(show 1<6 by decide),(show 2<6 by decide),(show 3<6 by decide),(show 4<6 by decide),(show 5<6 by decide),trivial,trivial⟩,trivial,trivial⟩ rfl fun w L0 plp hL hLB hcov=>Run.of_wpK (hc w L0 none (fun _ h=>by cases h)) 100 _ ?_
 conv=>whnf
 refine Run.nils (T':=[(2,.ptr 7 0),(1,ii t),(6,.opq 8),(7,ii 0)]) (M':=[(8,.row 1 0 [] 3),(7,.cells [.opq 0,ii inp,.opq 1,.opq 2,.opq 3,.opq 4,.opq 5,ii K] 45),(6,.pin plp),(2,.rwin 10 rs.length (rs.flatMap Rul.vals)),(4,.rwin 2 l.length (l.flatMap Evt.vals)),(5,.rwin 3 p.length (p.flatMap Prz.vals))]) 1 (fun _ => .row 1 0 [] 3) (fun _ _ => .inl ⟨_,_,rfl⟩) ⟨⟨_,rfl,.inl rfl⟩,⟨_,rfl,.inl rfl⟩,⟨_,rfl,.inr (.inl ⟨rfl,0,by decide,rfl⟩)⟩,⟨_,rfl,.inl rfl⟩,trivial⟩ ⟨.inl ⟨0,by decide,rfl⟩,.inr ⟨_,rfl,.inl rfl⟩,.inr ⟨_,rfl,.inl rfl⟩,.inr ⟨_,rfl,.inl rfl⟩,.inr ⟨_,rfl,.inl rfl⟩,.inr ⟨_,rfl,.inl rfl⟩,trivial⟩ ?_
 refine Run.upToJ (T:=fun i=>[(2,.ptr 7 0),(1,ii t),(6,.opq 8),(7,ii ((i:Nat):Int))]) (M:=fun i=>[(8,.row 1 (atY l t i).length ((atY l t i).map fun x=>ii x) 3),(7,.cells [.opq 0,ii inp,.opq 1,.opq 2,.opq 3,.opq 4,.opq 5,ii K] 45),(6,.pin plp),(2,.rwin 10 rs.length (rs.flatMap Rul.vals)),(4,.rwin 2 l.length (l.flatMap Evt.vals)),(5,.rwin 3 p.length (p.flatMap Prz.vals))]) (fun _=>True) (l.length) trivial ?_ ?_
 ·intro i hi hJ ih
  refine Run.of_wpK (hc w L0 none (fun _ h=>by cases h)) 1000 _ ?_
  conv=>whnf
  rw [decide_eq_true (show ((i:Nat):Int)<(l.length:Int) by omega)]
  conv=>whnf
  refine ⟨by omega,?_⟩
  conv=>whnf
  rw [opF_loadWf (f:=Evt.vals) (l:=l) (c := .int .i64 l[i].tick) i 0 rfl rfl rfl rfl Evt.vlen (by rw [idx_nat]) hi (by decide) rfl]
  conv=>whnf
  have hyl:=atY_len l t i (by omega)
  cases hq:(l[i].tick==t)
  case false =>
   have hs:atY l t (i+1)=atY l t i:=by rw [atY_succ hi]; unfold atStep; rw [hq]; rfl
   conv=>whnf
   rw [← hs]
   exact Run.trim (T':=[(2,.ptr 7 0),(1,ii t),(6,.opq 8),(7,ii (((i+1:Nat):Nat):Int))]) (M':=[(8,.row 1 (atY l t (i+1:Nat)).length ((atY l t (i+1:Nat)).map fun x=>ii x) 3),(7,.cells [.opq 0,ii inp,.opq 1,.opq 2,.opq 3,.opq 4,.opq 5,ii K] 45),(6,.pin plp),(2,.rwin 10 rs.length (rs.flatMap Rul.vals)),(4,.rwin 2 l.length (l.flatMap Evt.vals)),(5,.rwin 3 p.length (p.flatMap Prz.vals))]) 9 ⟨⟨rfl,(show 7<9 by decide)⟩,⟨rfl,trivial⟩,⟨rfl,(show 8<9 by decide)⟩,⟨congrArg some (congrArg ii (wrap_succ (by omega))),trivial⟩,trivial⟩ ⟨⟨rfl,by omega,scs_i _ _⟩,⟨rfl,by omega,by simp [SObj.sc,SV.scs,SV.sc]⟩,⟨rfl,by omega,fun p hp=>Nat.lt_of_lt_of_le (hcov.1 p hp) (show 6≤9 by decide)⟩,⟨rfl,by omega,trivial⟩,⟨rfl,by omega,trivial⟩,⟨rfl,by omega,trivial⟩,trivial⟩ (fun p hp=>by have:=hLB p hp; omega) (ih trivial)
  conv=>whnf
  refine ⟨by omega,?_⟩
  conv=>whnf
  rw [opF_loadWf (f:=Evt.vals) (l:=l) (c := .int .i64 l[i].id) i 1 rfl rfl rfl rfl Evt.vlen (by rw [idx_nat]) hi (by decide) rfl]
  conv=>whnf
  refine ⟨by omega,?_⟩
  conv=>whnf
  have hs:atY l t (i+1)=atY l t i++[l[i].id]:=by rw [atY_succ hi]; unfold atStep; rw [hq]; rfl
  refine Run.trimQ (T':=[(2,.ptr 7 0),(1,ii t),(6,.opq 8),(7,ii ((i+1:Nat):Int))]) (M':=[(8,.row 1 (atY l t (i+1)).length ((atY l t (i+1)).map fun x=>ii x) 3),(7,.cells [.opq 0,ii inp,.opq 1,.opq 2,.opq 3,.opq 4,.opq 5,ii K] 45),(6,.pin plp),(2,.rwin 10 rs.length (rs.flatMap Rul.vals)),(4,.rwin 2 l.length (l.flatMap Evt.vals)),(5,.rwin 3 p.length (p.flatMap Prz.vals))]) (rq [(8,10),(10,8)]) 9 ?_ ?_ ?_ ?_ (ih trivial)
  ·intro i hi j hj hne he
   have inv : ∀ i,i<9→rq [(8,10),(10,8)] (rq [(8,10),(10,8)] i)=i:=by decide
   exact hne (by rw [← inv i hi,he,inv j hj])
  ·exact ⟨⟨rfl,(show 7<9 by decide)⟩,⟨rfl,trivial⟩,⟨rfl,(show 8<9 by decide)⟩,⟨congrArg some (congrArg ii (wrap_succ (by omega))),trivial⟩,trivial⟩
  ·exact ⟨⟨by rw [oren_fix (S:=fun _=>False) (fun i hi=>hi.elim) (o := .row 1 (atY l t (i+1)).length ((atY l t (i+1)).map fun x=>ii x) 3) (scs_i _ _),hs,List.map_append,List.length_append]; rfl,by omega,scs_i _ _⟩,⟨rfl,by omega,by simp [SObj.sc,SV.scs,SV.sc]⟩,⟨congrArg some (pin_fix hcov (fun i hi=>rq_fix (rq_noneB (B:=6) rfl hi))).symm,by omega,fun p hp=>Nat.lt_of_lt_of_le (hcov.1 p hp) (show 6≤9 by decide)⟩,⟨rfl,by omega,trivial⟩,⟨rfl,by omega,trivial⟩,⟨rfl,by omega,trivial⟩,trivial⟩
  ·intro p hp
   have:=hLB p hp; exact ⟨rq_fix (rq_noneB (B:=6) rfl this),by omega⟩
 ·intro hJ
  refine Run.of_wpK (hc w L0 none (fun _ h=>by cases h)) 1000 _ ?_
  conv=>whnf
  rw [decide_eq_false (show ¬ ((l.length:Nat):Int)<(l.length:Int) by omega)]
  conv=>whnf
  rw [show atY l t l.length=atIn l t by unfold atY; rw [List.take_length]; rfl]
  rw [opF_make (m:=rs.length) rfl rfl rfl rfl rfl rfl (by omega) (by omega),show List.replicate rs.length (SV.v (.int .i64 0))=(rzY rs.length p t 0).map fun x=>ii x by simp [rzY,ii]]
  conv=>whnf
  refine Run.trim (T':=[(2,.ptr 7 0),(1,ii t),(6,.opq 8),(8,.opq 9),(9,ii (((0:Nat):Nat):Int))]) (M':=[(8,.row 1 (atIn l t).length ((atIn l t).map fun x=>ii x) 3),(9,.row 1 rs.length ((rzY rs.length p t (0:Nat)).map fun x=>ii x) 3),(7,.cells [.opq 0,ii inp,.opq 1,.opq 2,.opq 3,.opq 4,.opq 5,ii K] 45),(6,.pin plp),(2,.rwin 10 rs.length (rs.flatMap Rul.vals)),(4,.rwin 2 l.length (l.flatMap Evt.vals)),(5,.rwin 3 p.length (p.flatMap Prz.vals))]) 10 ⟨⟨rfl,(show 7<10 by decide)⟩,⟨rfl,trivial⟩,⟨rfl,(show 8<10 by decide)⟩,⟨rfl,(show 9<10 by decide)⟩,⟨rfl,trivial⟩,trivial⟩ ⟨⟨rfl,by omega,scs_i _ _⟩,⟨rfl,by omega,scs_i _ _⟩,⟨rfl,by omega,by simp [SObj.sc,SV.scs,SV.sc]⟩,⟨rfl,by omega,fun p hp=>Nat.lt_of_lt_of_le (hcov.1 p hp) (show 6≤10 by decide)⟩,⟨rfl,by omega,trivial⟩,⟨rfl,by omega,trivial⟩,⟨rfl,by omega,trivial⟩,trivial⟩ (fun p hp=>by have:=hLB p hp; omega) ?_
  refine Run.upToJ (T:=fun i=>[(2,.ptr 7 0),(1,ii t),(6,.opq 8),(8,.opq 9),(9,ii ((i:Nat):Int))]) (M:=fun i=>[(8,.row 1 (atIn l t).length ((atIn l t).map fun x=>ii x) 3),(9,.row 1 rs.length ((rzY rs.length p t i).map fun x=>ii x) 3),(7,.cells [.opq 0,ii inp,.opq 1,.opq 2,.opq 3,.opq 4,.opq 5,ii K] 45),(6,.pin plp),(2,.rwin 10 rs.length (rs.flatMap Rul.vals)),(4,.rwin 2 l.length (l.flatMap Evt.vals)),(5,.rwin 3 p.length (p.flatMap Prz.vals))]) (fun _=>True) (p.length) ?_ ?_ ?_
  ·exact trivial
  ·intro i hi hJ ih
   refine Run.of_wpK (hc w L0 none (fun _ h=>by cases h)) 1000 _ ?_
   conv=>whnf
   rw [decide_eq_true (show ((i:Nat):Int)<(p.length:Int) by omega)]
   conv=>whnf
   refine ⟨by omega,?_⟩
   conv=>whnf
   rw [opF_loadWf (f:=Prz.vals) (l:=p) (c := .int .i64 p[i].tick) i 0 rfl rfl rfl rfl Prz.vlen (by rw [idx_nat]) hi (by decide) rfl]
   conv=>whnf
   have hrl:=rzY_len rs.length p t i
   obtain ⟨Y,hY⟩ : ∃ Y,rzY rs.length p t i=Y:=⟨_,rfl⟩
   rw [hY] at hrl
   cases hq:(p[i].tick==t)
   case false =>
    have hs:rzY rs.length p t (i+1)=rzY rs.length p t i:=by rw [rzY_succ hi]; unfold rwStep; rw [hq]; rfl
    conv=>whnf
    rw [← hs]
    exact Run.trim (T':=[(2,.ptr 7 0),(1,ii t),(6,.opq 8),(8,.opq 9),(9,ii (((i+1:Nat):Nat):Int))]) (M':=[(8,.row 1 (atIn l t).length ((atIn l t).map fun x=>ii x) 3),(9,.row 1 rs.length ((rzY rs.length p t (i+1:Nat)).map fun x=>ii x) 3),(7,.cells [.opq 0,ii inp,.opq 1,.opq 2,.opq 3,.opq 4,.opq 5,ii K] 45),(6,.pin plp),(2,.rwin 10 rs.length (rs.flatMap Rul.vals)),(4,.rwin 2 l.length (l.flatMap Evt.vals)),(5,.rwin 3 p.length (p.flatMap Prz.vals))]) 10 ⟨⟨rfl,(show 7<10 by decide)⟩,⟨rfl,trivial⟩,⟨rfl,(show 8<10 by decide)⟩,⟨rfl,(show 9<10 by decide)⟩,⟨congrArg some (congrArg ii (wrap_succ (by omega))),trivial⟩,trivial⟩ ⟨⟨rfl,by omega,scs_i _ _⟩,⟨rfl,by omega,scs_i _ _⟩,⟨rfl,by omega,by simp [SObj.sc,SV.scs,SV.sc]⟩,⟨rfl,by omega,fun p hp=>Nat.lt_of_lt_of_le (hcov.1 p hp) (show 6≤10 by decide)⟩,⟨rfl,by omega,trivial⟩,⟨rfl,by omega,trivial⟩,⟨rfl,by omega,trivial⟩,trivial⟩ (fun p hp=>by have:=hLB p hp; omega) (ih trivial)
   conv=>whnf
   refine ⟨by omega,?_⟩
   conv=>whnf
   rw [opF_loadWf (f:=Prz.vals) (l:=p) (c := .int .i64 p[i].id) i 1 rfl rfl rfl rfl Prz.vlen (by rw [idx_nat]) hi (by decide) rfl]
   conv=>whnf
   cases hq2:decide (0≤p[i].id)
   case false =>
    have hs:rzY rs.length p t (i+1)=rzY rs.length p t i:=by rw [rzY_succ hi]; unfold rwStep; rw [hq,hq2]; rfl
    conv=>whnf
    rw [← hs]
    exact Run.trim (T':=[(2,.ptr 7 0),(1,ii t),(6,.opq 8),(8,.opq 9),(9,ii (((i+1:Nat):Nat):Int))]) (M':=[(8,.row 1 (atIn l t).length ((atIn l t).map fun x=>ii x) 3),(9,.row 1 rs.length ((rzY rs.length p t (i+1:Nat)).map fun x=>ii x) 3),(7,.cells [.opq 0,ii inp,.opq 1,.opq 2,.opq 3,.opq 4,.opq 5,ii K] 45),(6,.pin plp),(2,.rwin 10 rs.length (rs.flatMap Rul.vals)),(4,.rwin 2 l.length (l.flatMap Evt.vals)),(5,.rwin 3 p.length (p.flatMap Prz.vals))]) 10 ⟨⟨rfl,(show 7<10 by decide)⟩,⟨rfl,trivial⟩,⟨rfl,(show 8<10 by decide)⟩,⟨rfl,(show 9<10 by decide)⟩,⟨congrArg some (congrArg ii (wrap_succ (by omega))),trivial⟩,trivial⟩ ⟨⟨rfl,by omega,scs_i _ _⟩,⟨rfl,by omega,scs_i _ _⟩,⟨rfl,by omega,by simp [SObj.sc,SV.scs,SV.sc]⟩,⟨rfl,by omega,fun p hp=>Nat.lt_of_lt_of_le (hcov.1 p hp) (show 6≤10 by decide)⟩,⟨rfl,by omega,trivial⟩,⟨rfl,by omega,trivial⟩,⟨rfl,by omega,trivial⟩,trivial⟩ (fun p hp=>by have:=hLB p hp; omega) (ih trivial)
   conv=>whnf
   refine ⟨by omega,?_⟩
   conv=>whnf
   rw [opF_loadWf (f:=Prz.vals) (l:=p) (c := .int .i64 p[i].id) i 1 rfl rfl rfl rfl Prz.vlen (by rw [idx_nat]) hi (by decide) rfl]
   conv=>whnf
   cases hq3:decide (p[i].id<(rs.length:Int))
   case false =>
    have hs:rzY rs.length p t (i+1)=rzY rs.length p t i:=by rw [rzY_succ hi]; unfold rwStep; rw [hY,hrl,hq,hq2,hq3]; rfl
    conv=>whnf
    rw [← hs]
    exact Run.trim (T':=[(2,.ptr 7 0),(1,ii t),(6,.opq 8),(8,.opq 9),(9,ii (((i+1:Nat):Nat):Int))]) (M':=[(8,.row 1 (atIn l t).length ((atIn l t).map fun x=>ii x) 3),(9,.row 1 rs.length ((rzY rs.length p t (i+1:Nat)).map fun x=>ii x) 3),(7,.cells [.opq 0,ii inp,.opq 1,.opq 2,.opq 3,.opq 4,.opq 5,ii K] 45),(6,.pin plp),(2,.rwin 10 rs.length (rs.flatMap Rul.vals)),(4,.rwin 2 l.length (l.flatMap Evt.vals)),(5,.rwin 3 p.length (p.flatMap Prz.vals))]) 10 ⟨⟨rfl,(show 7<10 by decide)⟩,⟨rfl,trivial⟩,⟨rfl,(show 8<10 by decide)⟩,⟨rfl,(show 9<10 by decide)⟩,⟨congrArg some (congrArg ii (wrap_succ (by omega))),trivial⟩,trivial⟩ ⟨⟨rfl,by omega,scs_i _ _⟩,⟨rfl,by omega,scs_i _ _⟩,⟨rfl,by omega,by simp [SObj.sc,SV.scs,SV.sc]⟩,⟨rfl,by omega,fun p hp=>Nat.lt_of_lt_of_le (hcov.1 p hp) (show 6≤10 by decide)⟩,⟨rfl,by omega,trivial⟩,⟨rfl,by omega,trivial⟩,⟨rfl,by omega,trivial⟩,trivial⟩ (fun p hp=>by have:=hLB p hp; omega) (ih trivial)
   have hs:rzY rs.length p t (i+1)=Y.set p[i].id.toNat p[i].val:=by rw [rzY_succ hi]; unfold rwStep; rw [hY,hrl,hq,hq2,hq3]; rfl
   have h0:=of_decide_eq_true hq2
   have h1:=of_decide_eq_true hq3
   rw [hY]
   conv=>whnf
   refine Run.draw (hc w L0 none (fun _ h=>by cases h)) 13 ?_
   rw [show upto 0 13=upto 0 5++(upto 5 2++(upto 7 4++upto 11 2)) from rfl]
   simp only [drawK_app]
   conv=>whnf
   refine ⟨by omega,?_⟩
   conv=>whnf
   rw [opF_loadWf (f:=Prz.vals) (l:=p) (c := .int .i64 p[i].id) i 1 rfl rfl rfl rfl Prz.vlen (by rw [idx_nat]) hi (by decide) rfl]
   conv=>whnf
   refine ⟨by omega,?_⟩
   conv=>whnf
   rw [opF_loadWf (f:=Prz.vals) (l:=p) (c := .int .i64 p[i].val) i 2 rfl rfl rfl rfl Prz.vlen (by rw [idx_nat]) hi (by decide) rfl]
   conv=>whnf
   refine ⟨by kernel_rfl,?_⟩
   refine Run.of_wpK (hc w L0 none (fun _ h=>by cases h)) 1000 _ ?_
   conv=>whnf
   refine ⟨by omega,?_⟩
   conv=>whnf
   rw [opF_storeR1 (v:=ii p[i].val) p[i].id.toNat rfl rfl rfl rfl rfl (by rw [idx_eq,Nat.mul_one]) (by rw [List.length_map]; omega) rfl rfl,show (Y.map fun x=>ii x).set p[i].id.toNat (ii p[i].val)=(rzY rs.length p t (i+1)).map fun x=>ii x by rw [hs,List.map_set]]
   conv=>whnf
   exact Run.trim (T':=[(2,.ptr 7 0),(1,ii t),(6,.opq 8),(8,.opq 9),(9,ii (((i+1:Nat):Nat):Int))]) (M':=[(8,.row 1 (atIn l t).length ((atIn l t).map fun x=>ii x) 3),(9,.row 1 rs.length ((rzY rs.length p t (i+1:Nat)).map fun x=>ii x) 3),(7,.cells [.opq 0,ii inp,.opq 1,.opq 2,.opq 3,.opq 4,.opq 5,ii K] 45),(6,.pin plp),(2,.rwin 10 rs.length (rs.flatMap Rul.vals)),(4,.rwin 2 l.length (l.flatMap Evt.vals)),(5,.rwin 3 p.length (p.flatMap Prz.vals))]) 10 ⟨⟨rfl,(show 7<10 by decide)⟩,⟨rfl,trivial⟩,⟨rfl,(show 8<10 by decide)⟩,⟨rfl,(show 9<10 by decide)⟩,⟨congrArg some (congrArg ii (wrap_succ (by omega))),trivial⟩,trivial⟩ ⟨⟨rfl,by omega,scs_i _ _⟩,⟨rfl,by omega,scs_i _ _⟩,⟨rfl,by omega,by simp [SObj.sc,SV.scs,SV.sc]⟩,⟨rfl,by omega,fun p hp=>Nat.lt_of_lt_of_le (hcov.1 p hp) (show 6≤10 by decide)⟩,⟨rfl,by omega,trivial⟩,⟨rfl,by omega,trivial⟩,⟨rfl,by omega,trivial⟩,trivial⟩ (fun p hp=>by have:=hLB p hp; omega) (ih (trivial))
  ·intro hJ
   refine Run.of_wpK (hc w L0 none (fun _ h=>by cases h)) 1000 _ ?_
   conv=>whnf
   rw [decide_eq_false (show ¬ ((p.length:Nat):Int)<(p.length:Int) by omega)]
   conv=>whnf
   refine SpecR.intro 8 (by decide) hLB (by decide) hcov rfl rfl ⟨(show 6<8 by decide),(show 7<8 by decide),trivial⟩ ⟨⟨?_,by omega,scs_i _ _⟩,⟨?_,by omega,scs_i _ _⟩,trivial⟩
   ·rw [oren_fix (S:=fun _=>False) (fun i hi=>hi.elim) (o := .row 1 (atIn l t).length ((atIn l t).map fun x=>ii x) 3) (scs_i _ _)]; rfl
   ·rw [oren_fix (S:=fun _=>False) (fun i hi=>hi.elim) (o := .row 1 rs.length ((atRw rs.length p t).map fun x=>ii x) 3) (scs_i _ _),show atRw rs.length p t=rzY rs.length p t p.length by unfold rzY; rw [List.take_length]; rfl]; rfl
theorem atIn_eq (l:List Evt) (t:Int):atIn l t=(l.filter fun e=>e.tick==t).map (·.id):=by
 have : ∀ (l:List Evt) (a:List Int),l.foldl (atStep t) a=a++(l.filter fun e=>e.tick==t).map (·.id):=by
  intro l
  induction l with
  | nil=>intro a; simp
  | cons e l ih =>
   intro a
   rw [List.foldl_cons,ih]
   unfold atStep
   cases h:e.tick==t
   ·simp [h]
   ·simp [h]
 unfold atIn
 simpa using this l []
theorem nAt_split {t:Int} : ∀ {m:List Evt},m.Pairwise (fun a b=>a.tick≤b.tick)→(∀ e∈m,t≤e.tick)→m.take (nAt t m)=m.filter (fun e=>e.tick==t)∧m.drop (nAt t m)=m.filter (fun e=>decide (t+1≤e.tick))
 | [],_,_=>⟨rfl,rfl⟩
 | e::m,hp,ht=>by
  obtain ⟨h1,h2⟩:=List.pairwise_cons.1 hp
  obtain ⟨i1,i2⟩:=nAt_split h2 (fun a ha=>ht a (List.mem_cons_of_mem _ ha))
  unfold nAt
  by_cases h:e.tick=t
  ·rw [if_pos h,List.take_succ_cons,List.drop_succ_cons,i1,i2]
   constructor
   ·simp [h]
   ·rw [List.filter_cons,if_neg (by simp; omega)]
  ·rw [if_neg h]
   have h3:t<e.tick:=by have:=ht e (List.mem_cons_self ..); omega
   have h4 : ∀ a∈m,t<a.tick:=fun a ha=>by have:=h1 a ha; omega
   refine ⟨?_,?_⟩
   ·rw [List.take_zero]
    symm
    rw [List.filter_eq_nil_iff]
    intro a ha
    rcases List.mem_cons.1 ha with rfl | ha
    ·simp; omega
    ·have:=h4 a ha; simp; omega
   ·rw [List.drop_zero]
    symm
    rw [List.filter_eq_self]
    intro a ha
    rcases List.mem_cons.1 ha with rfl | ha
    ·simp; omega
    ·have:=h4 a ha; simp; omega
theorem nPz_split {t:Int} : ∀ {m:List Prz},m.Pairwise (fun a b=>a.tick≤b.tick)→(∀ e∈m,t≤e.tick)→m.take (nPz t m)=m.filter (fun e=>e.tick==t)∧m.drop (nPz t m)=m.filter (fun e=>decide (t+1≤e.tick))
 | [],_,_=>⟨rfl,rfl⟩
 | e::m,hp,ht=>by
  obtain ⟨h1,h2⟩:=List.pairwise_cons.1 hp
  obtain ⟨i1,i2⟩:=nPz_split h2 (fun a ha=>ht a (List.mem_cons_of_mem _ ha))
  unfold nPz
  by_cases h:e.tick=t
  ·rw [if_pos h,List.take_succ_cons,List.drop_succ_cons,i1,i2]
   constructor
   ·simp [h]
   ·rw [List.filter_cons,if_neg (by simp; omega)]
  ·rw [if_neg h]
   have h3:t<e.tick:=by have:=ht e (List.mem_cons_self ..); omega
   have h4 : ∀ a∈m,t<a.tick:=fun a ha=>by have:=h1 a ha; omega
   refine ⟨?_,?_⟩
   ·rw [List.take_zero]
    symm
    rw [List.filter_eq_nil_iff]
    intro a ha
    rcases List.mem_cons.1 ha with rfl | ha
    ·simp; omega
    ·have:=h4 a ha; simp; omega
   ·rw [List.drop_zero]
    symm
    rw [List.filter_eq_self]
    intro a ha
    rcases List.mem_cons.1 ha with rfl | ha
    ·simp; omega
    ·have:=h4 a ha; simp; omega
theorem evR_filter {l:List Evt} (hp:l.Pairwise (fun a b=>a.tick≤b.tick)) (h0 : ∀ e∈l,0≤e.tick) : ∀ i:Nat,evR l i=l.filter (fun e=>decide ((i:Int)≤e.tick))
 | 0=>by
  symm
  show l.filter _=l
  rw [List.filter_eq_self]
  intro a ha
  have:=h0 a ha
  simpa using this
 | i+1=>by
  have ih:=evR_filter hp h0 i
  have h1:(evR l i).Pairwise (fun a b=>a.tick≤b.tick):=by rw [ih]; exact hp.filter _
  have h2 : ∀ e∈evR l i,(i:Int)≤e.tick:=fun e he=>by rw [ih] at he; simpa using (List.mem_filter.1 he).2
  unfold evR
  rw [(nAt_split h1 h2).2,ih,List.filter_filter]
  apply List.filter_congr
  intro a _
  have:(((i+1:Nat)):Int)=(i:Int)+1:=rfl
  rw [this]
  by_cases h:(i:Int)+1≤a.tick
  ·simp [h]; omega
  ·simp [h]
theorem trIn_eq {l:List Evt} (hp:l.Pairwise (fun a b=>a.tick≤b.tick)) (h0 : ∀ e∈l,0≤e.tick) (i:Nat):trIn l i=atIn l i:=by
 have ih:=evR_filter hp h0 i
 have h1:(evR l i).Pairwise (fun a b=>a.tick≤b.tick):=by rw [ih]; exact hp.filter _
 have h2 : ∀ e∈evR l i,(i:Int)≤e.tick:=fun e he=>by rw [ih] at he; simpa using (List.mem_filter.1 he).2
 unfold trIn idsT
 rw [(nAt_split h1 h2).1,ih,List.filter_filter,atIn_eq]
 congr 1
 apply List.filter_congr
 intro a _
 cases h:a.tick==(i:Int)
 ·simp
 ·have:a.tick=(i:Int):=by simpa using h
  simp [this]
theorem pzR_filter {l:List Prz} (hp:l.Pairwise (fun a b=>a.tick≤b.tick)) (h0 : ∀ e∈l,0≤e.tick) : ∀ i:Nat,pzR l i=l.filter (fun e=>decide ((i:Int)≤e.tick))
 | 0=>by
  symm
  show l.filter _=l
  rw [List.filter_eq_self]
  intro a ha
  have:=h0 a ha
  simpa using this
 | i+1=>by
  have ih:=pzR_filter hp h0 i
  have h1:(pzR l i).Pairwise (fun a b=>a.tick≤b.tick):=by rw [ih]; exact hp.filter _
  have h2 : ∀ e∈pzR l i,(i:Int)≤e.tick:=fun e he=>by rw [ih] at he; simpa using (List.mem_filter.1 he).2
  unfold pzR
  rw [(nPz_split h1 h2).2,ih,List.filter_filter]
  apply List.filter_congr
  intro a _
  have:(((i+1:Nat)):Int)=(i:Int)+1:=rfl
  rw [this]
  by_cases h:(i:Int)+1≤a.tick
  ·simp [h]; omega
  ·simp [h]
theorem trRw_eq {R:Nat} {l:List Prz} (hp:l.Pairwise (fun a b=>a.tick≤b.tick)) (h0 : ∀ e∈l,0≤e.tick) (hr : ∀ e∈l,0≤e.id∧e.id<(R:Int)) (i:Nat):trRw R l i=atRw R l i:=by
 have ih:=pzR_filter hp h0 i
 have h1:(pzR l i).Pairwise (fun a b=>a.tick≤b.tick):=by rw [ih]; exact hp.filter _
 have h2 : ∀ e∈pzR l i,(i:Int)≤e.tick:=fun e he=>by rw [ih] at he; simpa using (List.mem_filter.1 he).2
 unfold trRw rwY
 rw [(nPz_split h1 h2).1,ih,List.filter_filter]
 have e1:(l.filter fun a=>(a.tick==(i:Int))&&decide ((i:Int)≤a.tick))=l.filter fun a=>a.tick==(i:Int):=by
  apply List.filter_congr
  intro a _
  cases h:a.tick==(i:Int)
  ·simp
  ·have:a.tick=(i:Int):=by simpa using h
   simp [this]
 rw [e1]
 unfold atRw
 have : ∀ (l:List Prz) (a:List Int),a.length=R→(∀ e∈l,0≤e.id∧e.id<(R:Int))→(l.filter fun z=>z.tick==(i:Int)).foldl rwSt a=l.foldl (rwStep (i:Int)) a:=by
  intro l
  induction l with
  | nil=>intro a _ _; rfl
  | cons e l ih =>
   intro a ha hr
   have h1:=hr e (List.mem_cons_self ..)
   have h2:=fun x hx=>hr x (List.mem_cons_of_mem _ hx)
   rw [List.foldl_cons]
   cases h:e.tick==(i:Int)
   ·rw [List.filter_cons,if_neg (by simp [h]),ih a ha h2]
    unfold rwStep
    rw [h]; rfl
   ·rw [List.filter_cons,if_pos (by simpa using h),List.foldl_cons,ih _ (by simp [rwSt,ha]) h2]
    congr 1
    unfold rwStep rwSt
    rw [h,ha,decide_eq_true h1.1,decide_eq_true h1.2]; rfl
 exact this l _ (by simp) hr
end Go.Proofs.Ytnnlpdgnlccbjaa
namespace Go.Proofs.Ytnnlpdgnlccbjaa
open Go.Sx
set_option maxRecDepth 100000
set_option maxHeartbeats 4000000
def fewB (n:Net) (rs:List Rul) (pl:List Int):Bool:=decide ((n.N.length:Int)≤24)&&(decide ((n.S.length:Int)≤100)&&(decide ((rs.length:Int)≤17)&&decide ((pl.length:Int)≤110)))
theorem few_run (vN vS:Value) (n:Net) (vR:Value) (rs:List Rul) (vP:Value) (pl:List Int) (w:World) (hn:IsNet w vN vS n) (hr:RowsAt w vR 10 rs.length (rs.flatMap Rul.vals)) (hpl:RowsAt w vP 1 pl.length (ints pl)) :
  Calls Try.prog 13 #[netV vN vS n,vR,vP] w fun e w'=>e = .returned (.bool (fewB n rs pl))∧Ext w w':=by
 have hc : ∀ L,Cx.ok ⟨Try.prog,tab,[],13,Try.f13,[],w,L,none⟩:=fun L=>⟨tab_ok,trivial,Try.func13,mixed,fun _ h=>by cases h⟩
 obtain ⟨h1,h2⟩:=hn
 obtain ⟨N,inp,S⟩:=n
 simp only at h1 h2
 have hrows:AllP (fun x:Value × Nat × Nat × List Value=>RowsAt w x.1 x.2.1 x.2.2.1 x.2.2.2) [(vN,8,N.length,N.flatMap Prm.vals),(vS,4,S.length,S.flatMap Syn.vals),(vR,10,rs.length,rs.flatMap Rul.vals),(vP,1,pl.length,ints pl)]:=⟨h1,h2,hr,hpl,trivial⟩
 refine Run.startW Try.func13 rfl _ hrows [.agg [.opq 0,ii inp,.opq 1],.opq 2,.opq 3] [netV vN vS ⟨N,inp,S⟩,vR,vP] [(0,.rwin 8 N.length (N.flatMap Prm.vals)),(1,.rwin 4 S.length (S.flatMap Syn.vals)),(2,.rwin 10 rs.length (rs.flatMap Rul.vals)),(3,.rwin 1 pl.length (ints pl))] 4 rfl rfl
  (by show [Value.agg [(SV.opq 0).conc _,.int .i64 inp,(SV.opq 1).conc _].toArray,(SV.opq 2).conc _,(SV.opq 3).conc _]=_; rw [conc_rows hrows (k:=0) rfl,conc_rows hrows (k:=1) rfl,conc_rows hrows (k:=2) rfl,conc_rows hrows (k:=3) rfl]; rfl) (by simp [SV.scs,SV.sc]) rfl (Run.of_wpK (hc _) 1000 _ ?_)
 conv=>whnf
 have fin : ∀ b:Bool,fewB ⟨N,inp,S⟩ rs pl=b → ∀ {M:List (Nat × SObj)} {n:Nat} {c:Cx},c.w0=w→c.L=[]→RetOk c M n (.v (.bool b)) (fun e w'=>e = .returned (.bool (fewB ⟨N,inp,S⟩ rs pl))∧Ext w w') :=
  fun b hb M n c hw hL=>⟨fun ρ w' hW _=>⟨by rw [hb]; rfl,by rw [hw,hL] at hW; exact hW.toExt⟩⟩
 cases b1:decide ((N.length:Int)≤24)
 ·conv=>whnf
  exact fin false (by unfold fewB; simp only [b1]; rfl) rfl rfl
 conv=>whnf
 cases b2:decide ((S.length:Int)≤100)
 ·conv=>whnf
  exact fin false (by unfold fewB; simp only [b1,b2]; rfl) rfl rfl
 conv=>whnf
 cases b3:decide ((rs.length:Int)≤17)
 ·conv=>whnf
  exact fin false (by unfold fewB; simp only [b1,b2,b3]; rfl) rfl rfl
 conv=>whnf
 cases b4:decide ((pl.length:Int)≤110)
 ·conv=>whnf
  exact fin false (by unfold fewB; simp only [b1,b2,b3,b4]; rfl) rfl rfl
 conv=>whnf
 exact fin true (by unfold fewB; simp only [b1,b2,b3,b4]; rfl) rfl rfl
end Go.Proofs.Ytnnlpdgnlccbjaa
namespace Go.Proofs.Ytnnlpdgnlccbjaa
open Go.Sx
set_option maxRecDepth 100000
set_option maxHeartbeats 8000000
/-- The error of Train, but for too many spikes. -/
def trErr (n:Net) (rs:List Rul) (pl:List Int) (l:List Evt) (p:List Prz) (K:Int):Int :=
 if learnChk n rs pl≠0 then learnChk n rs pl else if prepChk ⟨[prm1],n.inp,[]⟩ l K 10000≠0 then prepChk ⟨[prm1],n.inp,[]⟩ l K 10000 else pzsChk (rs.length:Int) p
def net0:Value := .agg #[.slice none 0 0,.int .i64 0,.slice none 0 0]
theorem train_bad (vN vS:Value) (n:Net) (vR:Value) (rs:List Rul) (vP:Value) (pl:List Int) (vE:Value) (l:List Evt) (vZ:Value) (p:List Prz) (K:Int) (w:World) (he:trErr n rs pl l p K≠0) (hn:IsNet w vN vS n) (hr:RowsAt w vR 10 rs.length (rs.flatMap Rul.vals)) (hpl:RowsAt w vP 1 pl.length (ints pl)) (hE:RowsAt w vE 2 l.length (l.flatMap Evt.vals)) (hZ:RowsAt w vZ 3 p.length (p.flatMap Prz.vals)) :
  Calls Try.prog 20 #[netV vN vS n,vR,vP,vE,vZ,.int .i64 K] w fun e w'=>e = .returned (.tuple #[.slice none 0 0,net0,.int .i64 (trErr n rs pl l p K)])∧Ext w w':=by
 have hc : ∀ w L' rd,(∀ p,rd=some p→p∈L')→Cx.ok ⟨Try.prog,tab,[],20,Try.f20,[],w,L',rd⟩:=fun w L' rd h=>⟨tab_ok,trivial,Try.func20,mixed,h⟩
 obtain ⟨hn1,hn2⟩:=hn
 have hrows:AllP (fun x:Value × Nat × Nat × List Value=>RowsAt w x.1 x.2.1 x.2.2.1 x.2.2.2) [(vN,8,n.N.length,n.N.flatMap Prm.vals),(vS,4,n.S.length,n.S.flatMap Syn.vals),(vR,10,rs.length,rs.flatMap Rul.vals),(vP,1,pl.length,ints pl),(vE,2,l.length,l.flatMap Evt.vals),(vZ,3,p.length,p.flatMap Prz.vals)]:=⟨hn1,hn2,hr,hpl,hE,hZ,trivial⟩
 refine Run.startW (tab:=tab) (pf:=[]) (cuts:=[]) Try.func20 rfl _ hrows [.agg [.opq 0,ii n.inp,.opq 1],.opq 2,.opq 3,.opq 4,.opq 5,ii K] [netV vN vS n,vR,vP,vE,vZ,.int .i64 K] [(0,.rwin 8 n.N.length (n.N.flatMap Prm.vals)),(1,.rwin 4 n.S.length (n.S.flatMap Syn.vals)),(2,.rwin 10 rs.length (rs.flatMap Rul.vals)),(3,.rwin 1 pl.length (ints pl)),(4,.rwin 2 l.length (l.flatMap Evt.vals)),(5,.rwin 3 p.length (p.flatMap Prz.vals))] 6 rfl rfl (by show [Value.agg [(SV.opq 0).conc _,.int .i64 n.inp,(SV.opq 1).conc _].toArray,(SV.opq 2).conc _,(SV.opq 3).conc _,(SV.opq 4).conc _,(SV.opq 5).conc _,.int .i64 K]=_; rw [conc_rows hrows (k:=0) rfl,conc_rows hrows (k:=1) rfl,conc_rows hrows (k:=2) rfl,conc_rows hrows (k:=3) rfl,conc_rows hrows (k:=4) rfl,conc_rows hrows (k:=5) rfl]; rfl) (by simp [SV.scs,SV.sc]) rfl (Run.of_wpK (hc w [] none (fun _ h=>by cases h)) 100 _ ?_)
 conv=>whnf
 by_cases h1:learnChk n rs pl=0
 case neg =>
  have ht:trErr n rs pl l p K=learnChk n rs pl:=by unfold trErr; rw [if_pos h1]
  rw [ht]
  refine Run.callE (g:=25) (vs:=[.agg [.opq 0,ii n.inp,.opq 1],.opq 2,.opq 3]) (caps:=[]) (.tup [.v (.pointer none),ii (learnChk n rs pl)]) (fun ρ w1 hW=>new_bad _ _ n _ rs _ pl w1 h1 ⟨hW.rowsAt rfl,hW.rowsAt rfl⟩ (hW.rowsAt rfl) (hW.rowsAt rfl)) (ent _ _ Try.func25 (by kernel_rfl) rfl) rfl rfl rfl rfl rfl rfl rfl ⟨trivial,trivial,trivial⟩ ?_
  refine Run.of_wpK (hc w [] none (fun _ h=>by cases h)) 1000 _ ?_
  conv=>whnf
  rw [show (learnChk n rs pl != 0)=true by simpa using h1]
  conv=>whnf
  exact ⟨fun ρ w' hW _=>⟨rfl,hW.toExt⟩⟩
 refine Run.callP (vs:=[.agg [.opq 0,ii n.inp,.opq 1],.opq 2,.opq 3]) (caps:=[]) (new_ok ⟨n,rs,pl⟩ h1) (ent _ _ Try.func25 (by kernel_rfl) rfl) rfl rfl rfl rfl rfl rfl rfl (by decide) (by decide)
  ⟨⟨by omega,trivial,⟨_,rfl,Conv.refl _⟩,.inl rfl,fun _=>by simp⟩,⟨by omega,trivial,⟨_,rfl,Conv.refl _⟩,.inl rfl,fun _=>by simp⟩,⟨by omega,trivial,⟨_,rfl,Conv.refl _⟩,.inl rfl,fun _=>by simp⟩,⟨by omega,trivial,⟨_,rfl,Conv.refl _⟩,.inl rfl,fun _=>by simp⟩,trivial⟩ (fun i hi=>by cases hi) (.tup [.ptr 8 0,ii 0]) ((8,.cells [ii 0,.opq 9,ii n.inp,.opq 10,.opq 11,.mp 16,.mp 17,.mp 18,.mp 19,.mp 20,.mp 21,.mp 22,.mp 23,.mp 24,.mp 25,.mp 26,.mp 27,.mp 28,.mp 29,.mp 30,.mp 31,.opq 12,.opq 13,.opq 14,.mp 15] 96)::(9,.row 8 n.N.length ((n.N.flatMap Prm.vals).map .v) 60)::(10,.row 4 n.S.length ((n.S.flatMap Syn.vals).map .v) 55)::(11,.row 2 n.N.length ((List.replicate n.N.length ste0).flatMap Ste.cells) 139)::(12,.row 10 rs.length ((rs.flatMap Rul.vals).map .v) 36)::(13,.row 1 pl.length ((ints pl).map .v) 3)::(14,.row 4 n.S.length ((Lnt.m0 ⟨n,rs,pl⟩).flatMap Mrk.cells) 84)::(15,.kmap true true (Lnt.tot ⟨n,rs,pl⟩))::(16,.kmap false false [])::(17,.kmap false false [])::(18,.kmap false false [])::(19,.kmap false false [])::(20,.kmap false false [])::(21,.kmap false false [])::(22,.kmap false false [])::(23,.kmap false false [])::(24,.kmap false false [])::(25,.kmap false false [])::(26,.kmap false false [])::(27,.kmap false false [])::(28,.kmap false false [])::(29,.kmap false false [])::(30,.kmap false false [])::(31,.kmap false false [])::(7,.cells [.v (.slice none 0 0),ii 0,.v (.slice none 0 0)] 25)::(6,.cells [.opq 0,ii n.inp,.opq 1] 25)::(0,.rwin 8 n.N.length (n.N.flatMap Prm.vals))::(1,.rwin 4 n.S.length (n.S.flatMap Syn.vals))::(2,.rwin 10 rs.length (rs.flatMap Rul.vals))::(3,.rwin 1 pl.length (ints pl))::(4,.rwin 2 l.length (l.flatMap Evt.vals))::(5,.rwin 3 p.length (p.flatMap Prz.vals))::[]) 32 rfl rfl
  ⟨.inr ⟨4,_,rfl,rfl,rfl,rfl⟩,.inr ⟨5,_,rfl,rfl,by rw [oren_fix (S:=fun _=>False) (fun i hi=>hi.elim) (o := .row 8 n.N.length ((n.N.flatMap Prm.vals).map .v) 60) (scs_v _ _)],rfl⟩,.inr ⟨6,_,rfl,rfl,by rw [oren_fix (S:=fun _=>False) (fun i hi=>hi.elim) (o := .row 4 n.S.length ((n.S.flatMap Syn.vals).map .v) 55) (scs_v _ _)],rfl⟩,.inr ⟨7,_,rfl,rfl,by rw [oren_fix (S:=fun _=>False) (fun i hi=>hi.elim) (o := .row 2 n.N.length ((List.replicate n.N.length ste0).flatMap Ste.cells) 139) (scs_st _ _)],rfl⟩,.inr ⟨8,_,rfl,rfl,by rw [oren_fix (S:=fun _=>False) (fun i hi=>hi.elim) (o := .row 10 rs.length ((rs.flatMap Rul.vals).map .v) 36) (scs_v _ _)],rfl⟩,.inr ⟨9,_,rfl,rfl,by rw [oren_fix (S:=fun _=>False) (fun i hi=>hi.elim) (o := .row 1 pl.length ((ints pl).map .v) 3) (scs_v _ _)],rfl⟩,.inr ⟨10,_,rfl,rfl,by rw [oren_fix (S:=fun _=>False) (fun i hi=>hi.elim) (o := .row 4 n.S.length ((Lnt.m0 ⟨n,rs,pl⟩).flatMap Mrk.cells) 84) (scs_marks _ _)],rfl⟩,.inr ⟨11,_,rfl,rfl,rfl,rfl⟩,.inr ⟨12,_,rfl,rfl,rfl,rfl⟩,.inr ⟨13,_,rfl,rfl,rfl,rfl⟩,.inr ⟨14,_,rfl,rfl,rfl,rfl⟩,.inr ⟨15,_,rfl,rfl,rfl,rfl⟩,.inr ⟨16,_,rfl,rfl,rfl,rfl⟩,.inr ⟨17,_,rfl,rfl,rfl,rfl⟩,.inr ⟨18,_,rfl,rfl,rfl,rfl⟩,.inr ⟨19,_,rfl,rfl,rfl,rfl⟩,.inr ⟨20,_,rfl,rfl,rfl,rfl⟩,.inr ⟨21,_,rfl,rfl,rfl,rfl⟩,.inr ⟨22,_,rfl,rfl,rfl,rfl⟩,.inr ⟨23,_,rfl,rfl,rfl,rfl⟩,.inr ⟨24,_,rfl,rfl,rfl,rfl⟩,.inr ⟨25,_,rfl,rfl,rfl,rfl⟩,.inr ⟨26,_,rfl,rfl,rfl,rfl⟩,.inr ⟨27,_,rfl,rfl,rfl,rfl⟩,.inl ⟨rfl,by simp⟩,.inl ⟨rfl,by simp⟩,.inl ⟨rfl,by simp⟩,.inl ⟨rfl,by simp⟩,.inl ⟨rfl,by simp⟩,.inl ⟨rfl,by simp⟩,.inl ⟨rfl,by simp⟩,.inl ⟨rfl,by simp⟩,trivial⟩ ?_
 refine Run.of_wpK (hc w [] none (fun _ h=>by cases h)) 1000 _ ?_
 conv=>whnf
 refine Run.callE (g:=24) (vs:=[.agg [.slc 32 0 1 1,ii n.inp,.v (.slice none 0 0)],.opq 4,ii K]) (caps:=[]) (.tup [.v (.slice none 0 0),ii (prepChk ⟨[prm1],n.inp,[]⟩ l K 10000)]) (fun ρ w1 hW=>nrun_run ((SV.slc 32 0 1 1).conc ρ) n.inp ((SV.opq 4).conc ρ) l K w1 (hW.rowsAtS (i:=32) rfl rfl (by decide)) (hW.rowsAt rfl)) (ent _ _ Try.func24 (by kernel_rfl) rfl) rfl rfl rfl rfl rfl rfl rfl ⟨trivial,trivial,trivial⟩ ?_
 refine Run.of_wpK (hc w [] none (fun _ h=>by cases h)) 1000 _ ?_
 conv=>whnf
 by_cases h2:prepChk ⟨[prm1],n.inp,[]⟩ l K 10000=0
 case neg =>
  have ht:trErr n rs pl l p K=prepChk ⟨[prm1],n.inp,[]⟩ l K 10000:=by unfold trErr; rw [if_neg (by simpa using h1),if_pos h2]
  rw [ht,show (prepChk ⟨[prm1],n.inp,[]⟩ l K 10000 != 0)=true by simpa using h2]
  conv=>whnf
  exact ⟨fun ρ w' hW _=>⟨rfl,hW.toExt⟩⟩
 have ht:trErr n rs pl l p K=pzsChk (rs.length:Int) p:=by unfold trErr; rw [if_neg (by simpa using h1),if_neg (by simpa using h2)]
 rw [ht] at he ⊢
 rw [show (prepChk ⟨[prm1],n.inp,[]⟩ l K 10000 != 0)=false by simpa using h2]
 conv=>whnf
 refine Run.callE (g:=51) (vs:=[ii (rs.length:Int),.opq 5]) (caps:=[]) (ii (pzsChk (rs.length:Int) p)) (fun ρ w1 hW=>lordered_run (rs.length:Int) ((SV.opq 5).conc ρ) p w1 (hW.rowsAt rfl)) (ent _ _ Try.func51 (by kernel_rfl) rfl) rfl rfl rfl rfl rfl rfl rfl trivial ?_
 refine Run.of_wpK (hc w [] none (fun _ h=>by cases h)) 1000 _ ?_
 conv=>whnf
 rw [show (pzsChk (rs.length:Int) p != 0)=true by simpa using he]
 conv=>whnf
 exact ⟨fun ρ w' hW _=>⟨rfl,hW.toExt⟩⟩
def smallB (n:Net) (rs:List Rul) (pl:List Int) (l:List Evt) (p:List Prz) (K:Int):Bool :=
 fewB n rs pl&&(!decide ((300:Int)<(l.length:Int))&&(!decide ((300:Int)<(p.length:Int))&&(!decide (K<0)&&(!decide (200<K)&&(trErr n rs pl l p K==0)))))
/-- A case as a value. -/
def caseV (vN vS vR vP vE vZ:Value) (n:Net) (K:Int):Value := .agg #[vN,.int .i64 n.inp,vS,vR,vP,vE,vZ,.int .i64 K]
structure SmallOK (n:Net) (rs:List Rul) (pl:List Int) (l:List Evt) (p:List Prz) (K:Int):Prop where
 N:n.N.length≤24
 S:n.S.length≤100
 ev:l.length≤300
 pz:p.length≤300
 K0:0≤K
 K1:K≤200
 chk:learnChk n rs pl=0
 prep:prepChk ⟨[prm1],n.inp,[]⟩ l K 10000=0
 pzs:pzsChk (rs.length:Int) p=0
theorem small_ok {n:Net} {rs:List Rul} {pl:List Int} {l:List Evt} {p:List Prz} {K:Int} (h:smallB n rs pl l p K=true):SmallOK n rs pl l p K:=by
 unfold smallB fewB at h
 simp only [Bool.and_eq_true,Bool.not_eq_true',decide_eq_false_iff_not,decide_eq_true_eq,beq_iff_eq,Int.not_lt] at h
 obtain ⟨⟨h1,h2,h3,h4⟩,h5,h6,h7,h8,h9⟩:=h
 have e1:learnChk n rs pl=0:=by
  unfold trErr at h9
  split at h9
  ·rename_i hh; exact absurd h9 hh
  ·rename_i hh; simpa using hh
 have e2:prepChk ⟨[prm1],n.inp,[]⟩ l K 10000=0:=by
  unfold trErr at h9
  rw [if_neg (by simpa using e1)] at h9
  split at h9
  ·rename_i hh; exact absurd h9 hh
  ·rename_i hh; simpa using hh
 have e3:pzsChk (rs.length:Int) p=0:=by
  unfold trErr at h9
  rw [if_neg (by simpa using e1),if_neg (by simpa using e2)] at h9
  exact h9
 exact ⟨by omega,by omega,by omega,by omega,h7,h8,e1,e2,e3⟩
theorem small_run (vN vS:Value) (n:Net) (vR:Value) (rs:List Rul) (vP:Value) (pl:List Int) (vE:Value) (l:List Evt) (vZ:Value) (p:List Prz) (K:Int) (w:World) (hn:IsNet w vN vS n) (hr:RowsAt w vR 10 rs.length (rs.flatMap Rul.vals)) (hpl:RowsAt w vP 1 pl.length (ints pl)) (hE:RowsAt w vE 2 l.length (l.flatMap Evt.vals)) (hZ:RowsAt w vZ 3 p.length (p.flatMap Prz.vals)) :
  Calls Try.prog 23 #[caseV vN vS vR vP vE vZ n K] w fun e w'=>e = .returned (.bool (smallB n rs pl l p K))∧Ext w w':=by
 have hc : ∀ w L' rd,(∀ p,rd=some p→p∈L')→Cx.ok ⟨Try.prog,tab,[],23,Try.f23,[],w,L',rd⟩:=fun w L' rd h=>⟨tab_ok,trivial,Try.func23,mixed,h⟩
 obtain ⟨hn1,hn2⟩:=hn
 have hrows:AllP (fun x:Value × Nat × Nat × List Value=>RowsAt w x.1 x.2.1 x.2.2.1 x.2.2.2) [(vN,8,n.N.length,n.N.flatMap Prm.vals),(vS,4,n.S.length,n.S.flatMap Syn.vals),(vR,10,rs.length,rs.flatMap Rul.vals),(vP,1,pl.length,ints pl),(vE,2,l.length,l.flatMap Evt.vals),(vZ,3,p.length,p.flatMap Prz.vals)]:=⟨hn1,hn2,hr,hpl,hE,hZ,trivial⟩
 refine Run.startW (tab:=tab) (pf:=[]) (cuts:=[]) Try.func23 rfl _ hrows [.agg [.opq 0,ii n.inp,.opq 1,.opq 2,.opq 3,.opq 4,.opq 5,ii K]] [caseV vN vS vR vP vE vZ n K] [(0,.rwin 8 n.N.length (n.N.flatMap Prm.vals)),(1,.rwin 4 n.S.length (n.S.flatMap Syn.vals)),(2,.rwin 10 rs.length (rs.flatMap Rul.vals)),(3,.rwin 1 pl.length (ints pl)),(4,.rwin 2 l.length (l.flatMap Evt.vals)),(5,.rwin 3 p.length (p.flatMap Prz.vals))] 6 rfl rfl (by show [Value.agg [(SV.opq 0).conc _,.int .i64 n.inp,(SV.opq 1).conc _,(SV.opq 2).conc _,(SV.opq 3).conc _,(SV.opq 4).conc _,(SV.opq 5).conc _,.int .i64 K].toArray]=_; rw [conc_rows hrows (k:=0) rfl,conc_rows hrows (k:=1) rfl,conc_rows hrows (k:=2) rfl,conc_rows hrows (k:=3) rfl,conc_rows hrows (k:=4) rfl,conc_rows hrows (k:=5) rfl]; rfl) (by simp [SV.scs,SV.sc]) rfl (Run.of_wpK (hc w [] none (fun _ h=>by cases h)) 100 _ ?_)
 conv=>whnf
 refine Run.callE (g:=13) (vs:=[.agg [.opq 0,ii n.inp,.opq 1],.opq 2,.opq 3]) (caps:=[]) (.v (.bool (fewB n rs pl))) (fun ρ w1 hW=>few_run _ _ n _ rs _ pl w1 ⟨hW.rowsAt rfl,hW.rowsAt rfl⟩ (hW.rowsAt rfl) (hW.rowsAt rfl)) (ent _ _ Try.func13 (by kernel_rfl) rfl) rfl rfl rfl rfl rfl rfl rfl trivial ?_
 cases b1:fewB n rs pl
 case false =>
  refine Run.of_wpK (hc w [] none (fun _ h=>by cases h)) 1000 _ ?_
  conv=>whnf
  exact ⟨fun ρ w' hW _=>⟨by unfold smallB; rw [b1]; rfl,hW.toExt⟩⟩
 have hfew:=b1
 unfold fewB at hfew
 simp only [Bool.and_eq_true,decide_eq_true_eq] at hfew
 refine Run.of_wpK (hc w [] none (fun _ h=>by cases h)) 1000 _ ?_
 conv=>whnf
 cases b2:decide ((300:Int)<(l.length:Int))
 case true =>
  conv=>whnf
  exact ⟨fun ρ w' hW _=>⟨by unfold smallB; rw [b1,b2]; rfl,hW.toExt⟩⟩
 conv=>whnf
 cases b3:decide ((300:Int)<(p.length:Int))
 case true =>
  conv=>whnf
  exact ⟨fun ρ w' hW _=>⟨by unfold smallB; rw [b1,b2,b3]; rfl,hW.toExt⟩⟩
 conv=>whnf
 cases b4:decide (K<0)
 case true =>
  conv=>whnf
  exact ⟨fun ρ w' hW _=>⟨by unfold smallB; rw [b1,b2,b3,b4]; rfl,hW.toExt⟩⟩
 conv=>whnf
 cases b5:decide (200<K)
 case true =>
  conv=>whnf
  exact ⟨fun ρ w' hW _=>⟨by unfold smallB; rw [b1,b2,b3,b4,b5]; rfl,hW.toExt⟩⟩
 conv=>whnf
 refine Run.callE (g:=15) (vs:=[.agg [.opq 0,ii n.inp,.opq 1],.opq 2,.opq 3]) (caps:=[]) (ii (learnChk n rs pl)) (fun ρ w1 hW=>learnCheck_run _ _ n _ rs _ pl w1 ⟨hW.rowsAt rfl,hW.rowsAt rfl⟩ (hW.rowsAt rfl) (hW.rowsAt rfl)) (ent _ _ Try.func15 (by kernel_rfl) rfl) rfl rfl rfl rfl rfl rfl rfl trivial ?_
 refine Run.of_wpK (hc w [] none (fun _ h=>by cases h)) 1000 _ ?_
 conv=>whnf
 by_cases h1:learnChk n rs pl=0
 case neg =>
  have ht:trErr n rs pl l p K=learnChk n rs pl:=by unfold trErr; rw [if_pos h1]
  rw [show (learnChk n rs pl != 0)=true by simpa using h1]
  conv=>whnf
  exact ⟨fun ρ w' hW _=>⟨by unfold smallB; rw [b1,b2,b3,b4,b5,ht,show (learnChk n rs pl==0)=false by simpa using h1]; rfl,hW.toExt⟩⟩
 rw [show (learnChk n rs pl != 0)=false by simpa using h1]
 conv=>whnf
 by_cases h2:trErr n rs pl l p K=0
 case neg =>
  refine Run.callE (g:=20) (vs:=[.agg [.opq 0,ii n.inp,.opq 1],.opq 2,.opq 3,.opq 4,.opq 5,ii K]) (caps:=[]) (.tup [.v (.slice none 0 0),.agg [.v (.slice none 0 0),ii 0,.v (.slice none 0 0)],ii (trErr n rs pl l p K)]) (fun ρ w1 hW=>train_bad _ _ n _ rs _ pl _ l _ p K w1 h2 ⟨hW.rowsAt rfl,hW.rowsAt rfl⟩ (hW.rowsAt rfl) (hW.rowsAt rfl) (hW.rowsAt rfl) (hW.rowsAt rfl)) (ent _ _ Try.func20 (by kernel_rfl) rfl) rfl rfl rfl rfl rfl rfl rfl (by simp [SV.sc,SV.scs]) ?_
  refine Run.of_wpK (hc w [] none (fun _ h=>by cases h)) 1000 _ ?_
  conv=>whnf
  exact ⟨fun ρ w' hW _=>⟨by unfold smallB; rw [b1,b2,b3,b4,b5]; rfl,hW.toExt⟩⟩
 have hsm:smallB n rs pl l p K=true:=by unfold smallB; rw [b1,b2,b3,b4,b5,h2]; rfl
 have hok:=small_ok hsm
 rw [hsm]
 obtain ⟨k,rfl⟩:=Int.eq_ofNat_of_zero_le hok.K0
 have hkk:=hok.K1
 have hKN:k*n.N.length≤65536:=Nat.le_trans (Nat.mul_le_mul (show k≤200 by omega) hok.N) (by decide)
 refine Run.callP (vs:=[.agg [.opq 0,ii n.inp,.opq 1],.opq 2,.opq 3,.opq 4,.opq 5,ii (k:Int)]) (caps:=[]) (train_ok ⟨n,rs,pl⟩ l p k hok.chk hok.prep hok.pzs hKN) (ent _ _ Try.func20 (by kernel_rfl) rfl) rfl rfl rfl rfl rfl rfl rfl (by decide) (by decide)
  ⟨⟨by omega,trivial,⟨_,rfl,Conv.refl _⟩,.inl rfl,fun _=>by simp⟩,⟨by omega,trivial,⟨_,rfl,Conv.refl _⟩,.inl rfl,fun _=>by simp⟩,⟨by omega,trivial,⟨_,rfl,Conv.refl _⟩,.inl rfl,fun _=>by simp⟩,⟨by omega,trivial,⟨_,rfl,Conv.refl _⟩,.inl rfl,fun _=>by simp⟩,⟨by omega,trivial,⟨_,rfl,Conv.refl _⟩,.inl rfl,fun _=>by simp⟩,⟨by omega,trivial,⟨_,rfl,Conv.refl _⟩,.inl rfl,fun _=>by simp⟩,trivial⟩ (fun i hi=>by cases hi) (.tup [.opq 7,.agg [.opq 8,ii n.inp,.opq 9],ii 0]) [(7,.row 2 (trO ⟨n,rs,pl⟩ l p k).length ((trO ⟨n,rs,pl⟩ l p k).flatMap Evt.cells) 62),(6,.cells [.opq 0,ii n.inp,.opq 1,.opq 2,.opq 3,.opq 4,.opq 5,ii (k:Int)] 45)] 10 rfl rfl
  ⟨.inr ⟨6,_,rfl,rfl,(oren_fix (S:=fun _=>False) (fun i hi=>hi.elim) (o := .row 2 (trO ⟨n,rs,pl⟩ l p k).length ((trO ⟨n,rs,pl⟩ l p k).flatMap Evt.cells) 62) (scs_evts _ _)).symm,rfl⟩,.inl ⟨rfl,by simp⟩,trivial⟩ ?_
 refine Run.of_wpK (hc w [] none (fun _ h=>by cases h)) 1000 _ ?_
 conv=>whnf
 exact ⟨fun ρ w' hW _=>⟨rfl,hW.toExt⟩⟩
end Go.Proofs.Ytnnlpdgnlccbjaa
