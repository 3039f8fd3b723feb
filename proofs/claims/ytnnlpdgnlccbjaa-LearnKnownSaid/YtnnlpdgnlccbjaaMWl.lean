/-
  Laws of the small executor, and walks of the functions that the statement reaches (part 12 of several, put together out of smaller texts).
  The conditions stand with each law.
-/
import Derived.ProofKit
import Derived.OpenShut
import Derived.ChangeOld
import Derived.Below
import Derived.Lib.SmallJoins
import Derived.Test.YtnnlpdgnlccbjaaMWk
namespace Go.Proofs.Ytnnlpdgnlccbjaa
open Go.Sx
open Go.ChangeShapes Go.WideShapes Go.ChangeAt Go.RowKit Go.Deep Go.Joins
set_option maxRecDepth 100000
theorem Ext.below {w w':World} (h:Ext w w'):Below w.heap.size w w':=⟨h.os,h.tape,h.output,h.size,h.keep⟩
section
variable {H:Type} {enc:TypeId × Value→H} {W:World} {base b0:Nat} {spare:Nat→Bool} {held:Bool} {r:Reach} {v:Value} {d:DataW H} {pl:List MemPlace}
end
end Go.Proofs.Ytnnlpdgnlccbjaa
namespace Go.Proofs.Ytnnlpdgnlccbjaa
open Go.Sx
set_option maxRecDepth 100000
set_option maxHeartbeats 4000000
theorem is_at (b:Nat) (x0 x1 x2 x3:Value) (p:Option Addr) (n cap:Nat) (w:World) (hb:b<w.heap.size) (h : ∀ j x,[x0,x1,x2,x3,Value.slice p n cap][j]? = some x→w.cell? ⟨b,0+j,none⟩=some x) :
  Calls Try.prog 67 #[.pointer (some ⟨b,0,none⟩)] w fun e w'=>e = .returned (.bool (decide (0<(n:Int))))∧Ext w w':=by
 have hc:Cx.ok ⟨Try.prog,tab,[],67,Try.f67,[],w,[],none⟩:=⟨tab_ok,trivial,Try.func67,mixed,fun _ h=>by cases h⟩
 have hW:WI w [] (envM b 0) (Sx.look [(0,.win [x0,x1,x2,x3,Value.slice p n cap])]) (· < 1) w:=WI.tell (fun y hy=>by
   obtain rfl:=List.mem_singleton.1 hy
   exact ⟨(show 0<1 by decide),trivial,hb,(fun p hp=>by cases hp),h⟩) (fun x hx y hy hne=>by
   obtain rfl:=List.mem_singleton.1 hx
   obtain rfl:=List.mem_singleton.1 hy
   exact absurd rfl hne) (fun x hx ho=>by
   obtain rfl:=List.mem_singleton.1 hx
   exact ho.elim) (fun p hp=>by cases hp)
 refine Run.calls (tab:=tab) (pf:=[]) (cuts:=[]) Try.func67 rfl (envM b 0) [.ptr 0 0] [(0,.win [x0,x1,x2,x3,Value.slice p n cap])] 1 ⟨(show 0<1 by decide),trivial⟩ rfl hW (Run.of_wpK hc 100 _ ?_)
 conv=>whnf
 exact ⟨fun ρ w' hW _=>⟨rfl,hW.toExt⟩⟩
theorem is_nil (w:World):Calls Try.prog 67 #[.pointer none] w fun e w'=>e = .returned (.bool false)∧Ext w w':=by
 refine Run.start0 (tab:=tab) (pf:=[]) (cuts:=[]) mixed tab_ok trivial Try.func67 rfl [.v (.pointer none)] 100 ⟨trivial,trivial⟩ rfl ?_
 conv=>whnf
 exact ⟨fun ρ w' hW _=>⟨rfl,hW.toExt⟩⟩
/-- How many cells a told row has. -/
def rowLen (M:Mem) (q e:Nat):Option Nat:=match M q with
 | some (.row e2 n _ _)=>if e2=e then some n else none
 | some (.rwin e2 n _)=>if e2=e then some n else none
 | _=>none
theorem rowLen_congr {M M':Mem} {q e:Nat} (h:M' q=M q):rowLen M' q e=rowLen M q e:=by unfold rowLen; rw [h]
theorem rowLen_at {w0 w:World} {L:List (Nat × Nat)} {ρ:Env} {M:Mem} {S:Nat→Prop} (hW:WI w0 L ρ M S w) {q e n:Nat} (h:rowLen M q e=some n):(ρ.h q).2.1=n:=by
 unfold rowLen at h
 split at h
 ·rename_i hM
  split at h
  ·obtain rfl:=Option.some.inj h
   obtain ⟨_,_,hh⟩:=hW.mem _ _ hM
   rcases hh.2.2 with ⟨h1,h2⟩ | ⟨cap,sp,h1,_⟩
   ·rw [h1,h2]
   ·rw [h1]
  ·cases h
 ·rename_i hM
  split at h
  ·obtain rfl:=Option.some.inj h
   obtain ⟨_,_,hh⟩:=hW.mem _ _ hM
   exact hh.2.1
  ·cases h
 ·cases h
def FIs:Mem→List SV→Option (List Nat × SV):=fun M args=>match args with
 | [.ptr j 0]=>match M j with
  | some (.cells (_::_::_::_ :: .opq q::_) _)=>match rowLen M q 2 with
   | some n=>some ([j,q],.v (.bool (decide (0<(n:Int)))))
   | none=>none
  | _=>none
 | [.v (.pointer none)]=>some ([],.v (.bool false))
 | _=>none
theorem is_pure:Pure Try.prog 67 FIs where
 ent:=ent _ _ Try.func67 (by kernel_rfl) rfl
 sc S M args bs v hv _:=by
  unfold FIs at hv
  split at hv
  ·split at hv
   ·split at hv
    ·obtain ⟨rfl,rfl⟩:=Prod.mk.inj (Option.some.inj hv); trivial
    ·cases hv
   ·cases hv
  ·obtain ⟨rfl,rfl⟩:=Prod.mk.inj (Option.some.inj hv); trivial
  ·cases hv
 cong M M' args bs v hv hb:=by
  unfold FIs at hv ⊢
  split at hv
  ·rename_i j
   split at hv
   ·rename_i q r te hM
    split at hv
    ·rename_i n hn
     obtain ⟨rfl,rfl⟩:=Prod.mk.inj (Option.some.inj hv)
     simp only [hb j (by simp),hM,rowLen_congr (hb q (by simp)),hn]
    ·cases hv
   ·cases hv
  ·exact hv
  ·cases hv
 run w0 L ρ M S args bs v w hW hv:=by
  unfold FIs at hv
  split at hv
  ·rename_i j
   split at hv
   ·rename_i c0 c1 c2 c3 q r te hM
    split at hv
    ·rename_i n hn
     obtain ⟨rfl,rfl⟩:=Prod.mk.inj (Option.some.inj hv)
     have hl:=rowLen_at hW hn
     obtain ⟨_,_,ho,hh⟩:=hW.mem _ _ hM
     have:=is_at (ρ.s j) (c0.conc ρ) (c1.conc ρ) (c2.conc ρ) (c3.conc ρ) (ρ.h q).1 (ρ.h q).2.1 (ρ.h q).2.2 w (Array.getElem?_eq_some_iff.1 hh).1 (fun i x hx=>by
      unfold World.cell?
      rw [show (⟨ρ.s j,0+i,none⟩:Addr).block=ρ.s j from rfl,hh]
      have hi:i<5:=by have:=(List.getElem?_eq_some_iff.1 hx).1; simpa using this
      have:i=0∨i=1∨i=2∨i=3∨i=4:=by omega
      rcases this with rfl | rfl | rfl | rfl | rfl <;> simpa [SV.concs,SV.conc] using hx)
     rw [hl] at this
     show Calls _ _ #[.pointer (some ⟨ρ.s j,ρ.o j+0,none⟩)] _ _
     rw [ho]
     exact this
    ·cases hv
   ·cases hv
  ·obtain ⟨rfl,rfl⟩:=Prod.mk.inj (Option.some.inj hv)
   exact is_nil w
  ·cases hv
end Go.Proofs.Ytnnlpdgnlccbjaa
namespace Go.Proofs.Ytnnlpdgnlccbjaa
open Go.Sx
set_option maxRecDepth 100000
set_option maxHeartbeats 8000000
end Go.Proofs.Ytnnlpdgnlccbjaa
namespace Go.Proofs.Ytnnlpdgnlccbjaa
open Go.Sx
set_option maxRecDepth 100000
set_option maxHeartbeats 4000000
def decL {α : Type} (e:Nat) (dec:List Value→Option α):Nat→List Value→Option (List α)
 | 0,[]=>some []
 | 0,_::_=>none
 | n+1,vs=>match dec (vs.take e) with
  | some a=>match decL e dec n (vs.drop e) with
   | some l=>some (a::l)
   | none=>none
  | none=>none
theorem decL_flat {α : Type} {e:Nat} {dec:List Value→Option α} {vals : α → List Value} (hl : ∀ a,(vals a).length=e) (hd : ∀ a,dec (vals a)=some a) : ∀ l:List α,decL e dec l.length (l.flatMap vals)=some l
 | []=>rfl
 | a::l=>by
  have h1:((a::l).flatMap vals).take e=vals a:=by rw [List.flatMap_cons,List.take_left' (hl a)]
  have h2:((a::l).flatMap vals).drop e=l.flatMap vals:=by rw [List.flatMap_cons,List.drop_left' (hl a)]
  rw [List.length_cons]
  unfold decL
  rw [h1,h2,hd,decL_flat hl hd l]
theorem decL_eq {α : Type} {e:Nat} {dec:List Value→Option α} {vals : α → List Value} (hd : ∀ c a,dec c=some a→c=vals a) : ∀ {n:Nat} {vs:List Value} {l:List α},decL e dec n vs=some l→vs=l.flatMap vals∧l.length=n
 | 0,[],l,h=>by obtain rfl:=Option.some.inj h; exact ⟨rfl,rfl⟩
 | 0,_::_,l,h=>by cases h
 | n+1,vs,l,h=>by
  unfold decL at h
  split at h
  ·rename_i a ha
   split at h
   ·rename_i l' hl'
    obtain rfl:=Option.some.inj h
    obtain ⟨h1,h2⟩:=decL_eq hd hl'
    refine ⟨?_,by rw [List.length_cons,h2]⟩
    rw [List.flatMap_cons,← hd _ _ ha,← h1,List.take_append_drop]
   ·cases h
  ·cases h
def dPrm:List Value→Option Prm
 | [.int .i64 a,.int .i64 b,.int .i64 c,.int .i64 d,.int .i64 e,.int .i64 f,.int .i64 g,.int .i64 h]=>some ⟨a,b,c,d,e,f,g,h⟩
 | _=>none
def dSyn:List Value→Option Syn
 | [.int .i64 a,.int .i64 b,.int .i64 c,.int .i64 d]=>some ⟨a,b,c,d⟩
 | _=>none
def dRul:List Value→Option Rul
 | [.int .i64 a,.int .i64 b,.int .i64 c,.int .i64 d,.int .i64 e,.int .i64 f,.int .i64 g,.int .i64 h,.int .i64 i,.bool j]=>some ⟨a,b,c,d,e,f,g,h,i,j⟩
 | _=>none
theorem dPrm_eq (c:List Value) (a:Prm) (h:dPrm c=some a):c=a.vals:=by
 unfold dPrm at h
 split at h
 ·obtain rfl:=Option.some.inj h; rfl
 ·cases h
theorem dSyn_eq (c:List Value) (a:Syn) (h:dSyn c=some a):c=a.vals:=by
 unfold dSyn at h
 split at h
 ·obtain rfl:=Option.some.inj h; rfl
 ·cases h
theorem dRul_eq (c:List Value) (a:Rul) (h:dRul c=some a):c=a.vals:=by
 unfold dRul at h
 split at h
 ·obtain rfl:=Option.some.inj h; rfl
 ·cases h
def unv:List SV→Option (List Value)
 | []=>some []
 | .v x::l=>match unv l with
  | some r=>some (x::r)
  | none=>none
 | _::_=>none
theorem unv_eq : ∀ {l:List SV} {r:List Value},unv l=some r→l=r.map .v
 | [],r,h=>by obtain rfl:=Option.some.inj h; rfl
 | v::l,r,h=>by
  unfold unv at h
  split at h
  ·rename_i hv; cases hv
  ·rename_i hv
   split at h
   ·rename_i hr
    obtain rfl:=Option.some.inj h
    simp only [List.cons.injEq] at hv
    obtain ⟨rfl,rfl⟩:=hv
    rw [unv_eq hr]; rfl
   ·cases h
  ·cases h
/-- A told row's elements, e cells each. -/
def rowOf (M:Mem) (i e:Nat):Option (Nat × List Value):=match M i with
 | some (.rwin e2 n vs)=>if e2=e then some (n,vs) else none
 | some (.row e2 n xs _)=>if e2=e then match unv xs with
  | some vs=>some (n,vs)
  | none=>none
  else none
 | _=>none
theorem rowOf_at {w0 w:World} {L:List (Nat × Nat)} {ρ:Env} {M:Mem} {S:Nat→Prop} (hW:WI w0 L ρ M S w) {i e n:Nat} {vs:List Value} (he:0<e) (h:rowOf M i e=some (n,vs)):RowsAt w ((SV.opq i).conc ρ) e n vs:=by
 unfold rowOf at h
 split at h
 ·rename_i hM
  split at h
  ·rename_i e2
   simp only [Option.some.injEq,Prod.mk.injEq] at h
   obtain ⟨rfl,rfl⟩:=h
   subst e2
   exact hW.rowsAt hM
  ·cases h
 ·rename_i hM
  split at h
  ·rename_i e2
   split at h
   ·rename_i hu
    simp only [Option.some.injEq,Prod.mk.injEq] at h
    obtain ⟨rfl,rfl⟩:=h
    subst e2
    have:=hW.rowsAtR hM he
    rw [unv_eq hu,concs_v] at this
    exact this
   ·cases h
  ·cases h
 ·cases h
/-- A slice's elements: of a told row, or of told cells. -/
def rowSV (M:Mem) (v:SV) (e:Nat):Option (Nat × List Value):=match v with
 | .opq i=>rowOf M i e
 | .slc j 0 n cap=>match M j with
  | some (.cells cs _)=>match unv cs with
   | some vs=>if vs.length=n*e∧n≤cap then some (n,vs) else none
   | none=>none
  | _=>none
 | _=>none
theorem rowSV_at {w0 w:World} {L:List (Nat × Nat)} {ρ:Env} {M:Mem} {S:Nat→Prop} (hW:WI w0 L ρ M S w) {v:SV} {e n:Nat} {vs:List Value} (he:0<e) (h:rowSV M v e=some (n,vs)):RowsAt w (v.conc ρ) e n vs:=by
 unfold rowSV at h
 split at h
 ·exact rowOf_at hW he h
 ·rename_i j n2 cap
  split at h
  ·rename_i cs te hM
   split at h
   ·rename_i vs2 hu
    split at h
    ·rename_i hc
     simp only [Option.some.injEq,Prod.mk.injEq] at h
     obtain ⟨rfl,rfl⟩:=h
     have hcs:=unv_eq hu
     have:=hW.rowsAtS hM (n:=n2) (e:=e) (cap:=cap) (by rw [hcs,List.length_map]; exact hc.1) hc.2
     rw [hcs,concs_v] at this
     exact this
    ·cases h
   ·cases h
  ·cases h
 ·cases h
def blkR:SV→List Nat
 | .opq i=>[i]
 | .slc j _ _ _=>[j]
 | _=>[]
theorem rowSV_congr {M M':Mem} {v:SV} {e:Nat} (h : ∀ b∈blkR v,M' b=M b):rowSV M' v e=rowSV M v e:=by
 unfold rowSV
 split
 ·rename_i i
  unfold rowOf
  rw [h i (by simp [blkR])]
 ·rename_i j n cap
  rw [h j (by simp [blkR])]
 ·rfl
/-- A function of a network, rules and numbers of rules, as an operation. -/
def FCk (f:Net→List Rul→List Int→Int):Mem→List SV→Option (List Nat × SV):=fun M args=>match args with
 | [.agg [.opq a,.v (.int .i64 inp),.opq b],c,d]=>match rowOf M a 8 with
  | some (n1,v1)=>match rowOf M b 4 with
   | some (n2,v2)=>match rowSV M c 10 with
    | some (n3,v3)=>match rowSV M d 1 with
     | some (n4,v4)=>match decL 8 dPrm n1 v1 with
      | some N=>match decL 4 dSyn n2 v2 with
       | some S=>match decL 10 dRul n3 v3 with
        | some rs=>match intsOf v4 with
         | some pl=>if pl.length=n4 then some ([a,b]++(blkR c++blkR d),ii (f ⟨N,inp,S⟩ rs pl)) else none
         | none=>none
        | none=>none
       | none=>none
      | none=>none
     | none=>none
    | none=>none
   | none=>none
  | none=>none
 | _=>none
theorem FCk_eq {f:Net→List Rul→List Int→Int} {M:Mem} {a b:Nat} {c d:SV} {N:List Prm} {inp:Int} {S:List Syn} {rs:List Rul} {pl:List Int} (h1:rowOf M a 8=some (N.length,N.flatMap Prm.vals)) (h2:rowOf M b 4=some (S.length,S.flatMap Syn.vals)) (h3:rowSV M c 10=some (rs.length,rs.flatMap Rul.vals)) (h4:rowSV M d 1=some (pl.length,ints pl)) :
  FCk f M [.agg [.opq a,ii inp,.opq b],c,d]=some ([a,b]++(blkR c++blkR d),ii (f ⟨N,inp,S⟩ rs pl)):=by
 unfold FCk
 simp only [h1,h2,h3,h4,decL_flat (dec:=dPrm) Prm.vlen (fun _=>rfl) N,decL_flat (dec:=dSyn) Syn.vlen (fun _=>rfl) S,decL_flat (dec:=dRul) Rul.vlen (fun _=>rfl) rs,intsOf_ints,if_true]
theorem FCk_at {f:Net→List Rul→List Int→Int} {M:Mem} {a b:Nat} {c d:SV} {x:Int} (N:List Prm) (inp:Int) (S:List Syn) (rs:List Rul) (pl:List Int) (h:f ⟨N,inp,S⟩ rs pl=x) (h1:rowOf M a 8=some (N.length,N.flatMap Prm.vals)) (h2:rowOf M b 4=some (S.length,S.flatMap Syn.vals)) (h3:rowSV M c 10=some (rs.length,rs.flatMap Rul.vals)) (h4:rowSV M d 1=some (pl.length,ints pl)) :
  FCk f M [.agg [.opq a,ii inp,.opq b],c,d]=some ([a,b]++(blkR c++blkR d),ii x):=by rw [FCk_eq h1 h2 h3 h4,h]
theorem FCk_some {f:Net→List Rul→List Int→Int} {M:Mem} {args:List SV} {bs:List Nat} {v:SV} (h:FCk f M args=some (bs,v)) : ∃ a b c d N inp S rs pl,args=[.agg [.opq a,ii inp,.opq b],c,d]∧bs=[a,b]++(blkR c++blkR d)∧v=ii (f ⟨N,inp,S⟩ rs pl) ∧
  rowOf M a 8=some (N.length,N.flatMap Prm.vals)∧rowOf M b 4=some (S.length,S.flatMap Syn.vals)∧rowSV M c 10=some (rs.length,rs.flatMap Rul.vals)∧rowSV M d 1=some (pl.length,ints pl):=by
 unfold FCk at h
 split at h
 case h_2=>cases h
 rename_i a inp b c d
 split at h
 case h_2=>cases h
 rename_i n1 v1 e1
 split at h
 case h_2=>cases h
 rename_i n2 v2 e2
 split at h
 case h_2=>cases h
 rename_i n3 v3 e3
 split at h
 case h_2=>cases h
 rename_i n4 v4 e4
 split at h
 case h_2=>cases h
 rename_i N d1
 split at h
 case h_2=>cases h
 rename_i S d2
 split at h
 case h_2=>cases h
 rename_i rs d3
 split at h
 case h_2=>cases h
 rename_i pl d4
 split at h
 case isFalse=>cases h
 rename_i hpl
 simp only [Option.some.injEq,Prod.mk.injEq] at h
 obtain ⟨rfl,rfl⟩:=h
 obtain ⟨g1,g2⟩:=decL_eq dPrm_eq d1
 obtain ⟨g3,g4⟩:=decL_eq dSyn_eq d2
 obtain ⟨g5,g6⟩:=decL_eq dRul_eq d3
 have g7:=intsOf_eq d4
 subst g1 g2 g3 g4 g5 g6 g7 hpl
 exact ⟨a,b,c,d,N,inp,S,rs,pl,rfl,rfl,rfl,e1,e2,e3,e4⟩
theorem rowOf_congr {M M':Mem} {i e:Nat} (h:M' i=M i):rowOf M' i e=rowOf M i e:=by unfold rowOf; rw [h]
theorem Pure.ofCk {g:FuncId} {f:Net→List Rul→List Int→Int} (he:Enters Try.prog g) (hr : ∀ (vN vS:Value) (n:Net) (vR:Value) (rs:List Rul) (vP:Value) (pl:List Int) (w:World),IsNet w vN vS n→RowsAt w vR 10 rs.length (rs.flatMap Rul.vals)→RowsAt w vP 1 pl.length (ints pl) →
  Calls Try.prog g #[netV vN vS n,vR,vP] w fun e w'=>e = .returned (.int .i64 (f n rs pl))∧Ext w w'):Pure Try.prog g (FCk f) where
 ent:=he
 sc S M args bs v hv hs:=by
  obtain ⟨a,b,c,d,N,inp,S',rs,pl,_,_,rfl,_⟩:=FCk_some hv
  trivial
 cong M M' args bs v hv hb:=by
  obtain ⟨a,b,c,d,N,inp,S,rs,pl,rfl,rfl,rfl,h1,h2,h3,h4⟩:=FCk_some hv
  exact FCk_eq (by rw [rowOf_congr (hb a (by simp))]; exact h1) (by rw [rowOf_congr (hb b (by simp))]; exact h2) (by rw [rowSV_congr fun q hq=>hb q (by simp [hq])]; exact h3) (by rw [rowSV_congr fun q hq=>hb q (by simp [hq])]; exact h4)
 run w0 L ρ M S args bs v w hW hv:=by
  obtain ⟨a,b,c,d,N,inp,S',rs,pl,rfl,rfl,rfl,h1,h2,h3,h4⟩:=FCk_some hv
  exact hr _ _ ⟨N,inp,S'⟩ _ rs _ pl w ⟨rowOf_at hW (by decide) h1,rowOf_at hW (by decide) h2⟩ (rowSV_at hW (by decide) h3) (rowSV_at hW (by decide) h4)
theorem lchk_pure:Pure Try.prog 15 (FCk learnChk):=Pure.ofCk (ent _ _ Try.func15 (by kernel_rfl) rfl) learnCheck_run
def FTrue_v:List SV→Option SV
 | []=>some (.v (.bool true))
 | _=>none
theorem works_pure:Pure Try.prog 14 (plainF FTrue_v):=PureV.lift {
 ent:=ent _ _ Try.func14 (by kernel_rfl) rfl
 sc S args v hv hs:=by
  unfold FTrue_v at hv
  split at hv
  ·obtain rfl:=Option.some.inj hv; trivial
  ·cases hv
 run ρ args v w hv:=by
  unfold FTrue_v at hv
  split at hv
  ·obtain rfl:=Option.some.inj hv; exact works_run w
  ·cases hv }
end Go.Proofs.Ytnnlpdgnlccbjaa
namespace Go.Proofs.Ytnnlpdgnlccbjaa
open Go.Sx
set_option maxRecDepth 100000
set_option maxHeartbeats 4000000
def FIs0:Mem→List SV→Option (List Nat × SV):=fun M args=>match args with
 | [.ptr j 0]=>match M j with
  | some (.cells (_::_::_::_ :: .v (.slice none 0 0)::_) _)=>some ([j],.v (.bool false))
  | _=>none
 | _=>none
theorem is0_pure:Pure Try.prog 67 FIs0 where
 ent:=ent _ _ Try.func67 (by kernel_rfl) rfl
 sc S M args bs v hv _:=by
  unfold FIs0 at hv
  split at hv
  ·split at hv
   ·obtain ⟨rfl,rfl⟩:=Prod.mk.inj (Option.some.inj hv); trivial
   ·cases hv
  ·cases hv
 cong M M' args bs v hv hb:=by
  unfold FIs0 at hv ⊢
  split at hv
  ·rename_i j
   split at hv
   ·rename_i r te hM
    obtain ⟨rfl,rfl⟩:=Prod.mk.inj (Option.some.inj hv)
    simp only [hb j (by simp),hM]
   ·cases hv
  ·cases hv
 run w0 L ρ M S args bs v w hW hv:=by
  unfold FIs0 at hv
  split at hv
  ·rename_i j
   split at hv
   ·rename_i c0 c1 c2 c3 r te hM
    obtain ⟨rfl,rfl⟩:=Prod.mk.inj (Option.some.inj hv)
    obtain ⟨_,_,ho,hh⟩:=hW.mem _ _ hM
    have:=is_at (ρ.s j) (c0.conc ρ) (c1.conc ρ) (c2.conc ρ) (c3.conc ρ) none 0 0 w (Array.getElem?_eq_some_iff.1 hh).1 (fun i x hx=>by
     unfold World.cell?
     rw [show (⟨ρ.s j,0+i,none⟩:Addr).block=ρ.s j from rfl,hh]
     have hi:i<5:=by have:=(List.getElem?_eq_some_iff.1 hx).1; simpa using this
     have:i=0∨i=1∨i=2∨i=3∨i=4:=by omega
     rcases this with rfl | rfl | rfl | rfl | rfl <;> simpa [SV.concs,SV.conc] using hx)
    show Calls _ _ #[.pointer (some ⟨ρ.s j,ρ.o j+0,none⟩)] _ _
    rw [ho]
    exact this
   ·cases hv
  ·cases hv
def emptyC:List SV:=[ii 0,.v (.slice none 0 0),ii 0,.v (.slice none 0 0),.v (.slice none 0 0)]
theorem Mark_empty (r:List SV) (hsc:SV.scs (· < 1) r):BSpec Try.prog 36 [.ptr 0 0,ii 0] [(0,.cells (emptyC++r) 96)] 1 [0] (.tup [.agg [ii 0,ii 0,ii 0,ii 0],ii 1]) [(0,.cells (emptyC++r) 96)] 1:=by
 have hsc2:SV.scs (· < 1) (emptyC++r):=⟨trivial,trivial,trivial,trivial,trivial,hsc⟩
 have hpf:PF.oks Try.prog [(67,FIs0)]:=⟨is0_pure,trivial⟩
 have hc : ∀ w L' rd,(∀ p,rd=some p→p∈L')→Cx.ok ⟨Try.prog,tab,[(67,FIs0)],36,Try.f36,[],w,L',rd⟩:=fun w L' rd h=>⟨tab_ok,hpf,Try.func36,mixed,h⟩
 refine BSpec.start (tab:=tab) (pf:=[(67,FIs0)]) (cuts:=[]) Try.func36 rfl ⟨(show 0<1 by decide),trivial,trivial⟩ rfl fun w L0 plp hL hLB hcov=>Run.of_wpK (hc w L0 none (fun _ h=>by cases h)) 100 _ ?_
 conv=>whnf
 refine SpecR.intro 1 (by decide) hLB (by decide) hcov rfl rfl (by simp [SV.sc,SV.scs]) ⟨⟨?_,by omega,hsc2⟩,trivial⟩
 simp only [SObj.ren]
 rw [rens_fix (fun i hi=>sh_fix i hi) _ hsc2]; rfl
theorem Step_nil (w:World):Calls Try.prog 27 #[.pointer none,.slice none 0 0,.slice none 0 0] w fun e w'=>e = .returned (.tuple #[.slice none 0 0,.int .i64 1])∧Ext w w':=by
 refine Run.start0 (tab:=tab) (pf:=[(67,FIs)]) (cuts:=[]) mixed tab_ok ⟨is_pure,trivial⟩ Try.func27 rfl [.v (.pointer none),.v (.slice none 0 0),.v (.slice none 0 0)] 100 ⟨trivial,trivial,trivial,trivial⟩ rfl ?_
 conv=>whnf
 exact ⟨fun ρ w' hW _=>⟨rfl,hW.toExt⟩⟩
theorem Now_nil (w:World):Calls Try.prog 37 #[.pointer none] w fun e w'=>e = .returned (.int .i64 0)∧Ext w w':=by
 refine Run.start0 (tab:=tab) (pf:=[(67,FIs)]) (cuts:=[]) mixed tab_ok ⟨is_pure,trivial⟩ Try.func37 rfl [.v (.pointer none)] 100 ⟨trivial,trivial⟩ rfl ?_
 conv=>whnf
 exact ⟨fun ρ w' hW _=>⟨rfl,hW.toExt⟩⟩
theorem Copy_nil (w:World):Calls Try.prog 30 #[.pointer none] w fun e w'=>e = .returned (.pointer none)∧Ext w w':=by
 refine Run.start0 (tab:=tab) (pf:=[(67,FIs)]) (cuts:=[]) mixed tab_ok ⟨is_pure,trivial⟩ Try.func30 rfl [.v (.pointer none)] 100 ⟨trivial,trivial⟩ rfl ?_
 conv=>whnf
 exact ⟨fun ρ w' hW _=>⟨rfl,hW.toExt⟩⟩
def FNil_v (v:Value):List SV→Option SV
 | [.v (.pointer none)]=>some (.v v)
 | _=>none
theorem Pure.ofNil {g:FuncId} {v:Value} (he:Enters Try.prog g) (h : ∀ w,Calls Try.prog g #[.pointer none] w fun e w'=>e = .returned v∧Ext w w'):Pure Try.prog g (plainF (FNil_v v)):=PureV.lift {
 ent:=he
 sc S args x hv hs:=by
  unfold FNil_v at hv
  split at hv
  ·obtain rfl:=Option.some.inj hv; trivial
  ·cases hv
 run ρ args x w hv:=by
  unfold FNil_v at hv
  split at hv
  ·obtain rfl:=Option.some.inj hv; exact h w
  ·cases hv }
theorem now_pure:Pure Try.prog 37 (plainF (FNil_v (.int .i64 0))):=Pure.ofNil (ent _ _ Try.func37 (by kernel_rfl) rfl) Now_nil
theorem copy_pure:Pure Try.prog 30 (plainF (FNil_v (.pointer none))):=Pure.ofNil (ent _ _ Try.func30 (by kernel_rfl) rfl) Copy_nil
def FWin_v (W:Rul→Int→Int × Int):List SV→Option SV
 | [x,.v (.int .i64 g)]=>match rulOf x.cells with
  | some r=>some (.tup [ii (W r g).1,ii (W r g).2])
  | none=>none
 | _=>none
theorem win_pure:Pure Try.prog 18 (plainF (FWin_v winR)):=PureV.lift {
 ent:=ent _ _ Try.func18 (by kernel_rfl) rfl
 sc S args x hv hs:=by
  unfold FWin_v at hv
  split at hv
  ·split at hv
   ·obtain rfl:=Option.some.inj hv; exact ⟨trivial,trivial,trivial⟩
   ·cases hv
  ·cases hv
 run ρ args x w hv:=by
  unfold FWin_v at hv
  split at hv
  ·rename_i x0 g0
   split at hv
   ·rename_i r0 hr
    obtain rfl:=Option.some.inj hv
    have:=Window_run r0 g0 w
    rw [← rul_conc ρ hr] at this
    exact this
   ·cases hv
  ·cases hv }
def exEv2:List Evt:=[⟨0,0⟩,⟨0,1⟩]
def exQ:Rul:=⟨2,16,8,4,64,128,128,0,9,false⟩
def exSm:Rul:={ exRul with sum:=true }
def exMore:Net:=⟨[exPrm,exPrm],2,exS++[⟨-1,1,3,16⟩]⟩
def exHv:Net:=⟨[exPrm,exPrm],2,[⟨-1,0,5,1⟩,⟨-2,1,5,1⟩,⟨0,1,10,1⟩]⟩
def exKp:Rul:={ exRul with keep:=256 }
def exFd:Rul:={ exRul with fade:=1 }
theorem k_win:winR exRul 1=(2,0)∧winR exRul 2=(1,0)∧winR exRul 3=(0,0)∧winR exRul 0=(0,0)∧winR exRul (-1)=(-1,0)∧winR exRul (-2)=(0,0):=by
 refine ⟨?_,?_,?_,?_,?_,?_⟩ <;> kernel_rfl
theorem k_prep:prepChk ⟨[prm1],2,[]⟩ exEv2 10 10000=0:=by kernel_rfl
theorem k_out:trO (trdX exNet exRul []) exEv2 [] 10=[⟨1,0⟩,⟨1,1⟩]:=by kernel_rfl
theorem k_now:nowL exS (trS (trdX exNet exRul []) exEv2 [] 10).m=[⟨-1,0,5,1⟩,⟨-2,1,5,1⟩,⟨0,1,1,1⟩]:=by kernel_rfl
theorem k_chkQ:learnChk exNet [exQ] [-1,-1,0]=0:=by kernel_rfl
theorem k_chkS:learnChk exMore [exSm] [-1,-1,0,0]=0:=by kernel_rfl
theorem k_pz:pzsChk 1 [⟨3,0,16⟩]=0∧pzsChk 1 [⟨4,0,16⟩]=0∧pzsChk 1 [⟨4,0,-16⟩]=0:=by refine ⟨?_,?_,?_⟩ <;> kernel_rfl
theorem k_t1:trdB exNet exQ [⟨3,0,16⟩] [] [4]=true:=by kernel_rfl
theorem k_t2:trdB exNet exQ [⟨4,0,16⟩] [] [3]=true:=by kernel_rfl
theorem k_t3:trdB exNet exQ [⟨4,0,-16⟩] [] [1]=true:=by kernel_rfl
theorem k_t4:trdB exNet exQ [] [] [2]=true:=by kernel_rfl
theorem k_t5:trdB exMore exSm [] [0] [3,2]=true:=by kernel_rfl
theorem k_ck:learnChk exHv [exRul] [-1,-1,0]=21∧learnChk exNet [exKp] [-1,-1,0]=3∧learnChk exNet [exFd] [-1,-1,0]=3∧learnChk exNet [exRul] [-1,-1,1]=3:=by
 refine ⟨?_,?_,?_,?_⟩ <;> kernel_rfl
end Go.Proofs.Ytnnlpdgnlccbjaa
namespace Go.Sx
/-- 'append([]T{}, s...)'. -/
theorem Run.appendC {c:Cx} (hc:c.ok) {T:List (Nat × SV)} {M:List (Nat × SObj)} {n:Nat} {D:List Deferred} {ops:Array Oper} {i:Nat} {r:List Nat} {k:List Item} {R:Ending→World→Prop} {o:Oper} {x y:Operand} {t:TypeId}
  (ho:get ops.toList i=some o) (hop:o.op = .call { callee := .builtin .append,args := #[x,y],argTypes := #[t,t] }) (hw:wantS ops.toList (look T) o=some true) (hd:okD c.fn.ntmps o.dst=true)
  {j e:Nat} {te:TypeId} (hx:ev (look T) x=some (.slc j 0 0 0)) (hj:look M j=some (.cells [] te))
  {q len:Nat} {vs:List Value} (hy:ev (look T) y=some (.opq q)) (hq : ∀ ρ w,WI c.w0 c.L ρ (look M) (· < n) w→RowsAt w ((SV.opq q).conc ρ) e len vs) (hone' : ∀ u∈vs,u.oneCell'=true)
  {ti tie:TI} {bytes:Nat} (hti:look c.tab t=some ti) (hsh:ti.sh = .slc te e bytes) (hte:look c.tab te=some tie) (hz:tie.zero.length=e) (he:0<e)
  (hfit:len*bytes≤140737488355328∧len<9223372036854775808) (M':List (Nat × SObj)) (hM':AllP (fun p=>look M p.1=some p.2∧p.1≠j) M')
  (h:Run c ⟨putS T o.dst (.opq n),(n,.row e len (vs.map .v) te)::M',n+1,D,.inRegion ops r::k⟩ R):Run c ⟨T,M,n,D,.inRegion ops (i::r)::k⟩ R:=by
 refine ⟨fun ρ a w hi => ?_⟩
 rw [get_eq,Array.getElem?_toList] at ho
 refine TW.op ho (wantS_ok hi.tm hw) ?_
 obtain ⟨h1,_⟩:=ev_ok hi.tm hx
 obtain ⟨h2,_⟩:=ev_ok hi.tm hy
 have hti:=Tab.ok_look hc.tab hti
 have hte:=Tab.ok_look hc.tab hte
 obtain ⟨d,hd1,hd2⟩:=hti.desc
 obtain ⟨inf,rfl,g2,g3,g4⟩:=sh_desc.2.2.2.2.1 te e bytes (hd2.trans hsh)
 obtain ⟨inf',z,i1,_,i3,i4⟩:=hte.infos
 rw [g2] at i1
 obtain rfl:=Option.some.inj i1
 have hzs:z.cells.size=e:=by rw [← hz,← i4]; simp
 obtain ⟨hSj,hscj,h0,hcb⟩:=hi.wi.mem j _ hj
 have hsub : ∀ kk oo,look M' kk=some oo→look M kk=some oo:=fun kk oo hk=>(hM'.mem _ (look_mem hk)).1
 have hown:w.ownsRow 0 te e (.slice (some ⟨ρ.s j,0,none⟩) 0 0) 0 [] :=
  ⟨by simp,.inr ⟨ρ.s j,0,#[],rfl,Nat.zero_le _,hcb,Nat.le_refl _,Nat.zero_le _,by simp,by simp⟩⟩
 have hx1:a.eval x = .slice (some ⟨ρ.s j,0,none⟩) 0 0:=by rw [h1]; simp only [SV.conc,h0,Nat.add_zero]
 obtain ⟨hvl,p,cap,hv,hcap,hp⟩:=hq ρ w hi.wi
 rw [hv] at h2
 have fin : ∀ v' w' row,(execOp a.eval o).run c.P w = .ok (.value v') w'→w'.ownsRow 0 te e v' len vs→w.grownBy w' row→(row=none∨row=some (ρ.s j))→(∀ g,v'.ownBlock=some g→row=some g∨w.heap.size≤g) →
   Oc c.P a o w fun v w'=>TW c.P c.f c.rr (a.put o.dst v) (.inRegion ops r::k) w' R:=by
  intro v' w' row hrun r2 r3 r4 r5
  rw [← concs_v ρ vs] at r2
  obtain ⟨hW',hag⟩:=hi.wi.rowTo hsub (i:=n) (Nat.lt_irrefl n) (xs:=vs.map .v) (t:=te) (e:=e) (n:=len) r3 (fun b hb=>by
   rcases r4 with r4 | r4
   ·rw [r4] at hb; cases hb
   ·rw [r4] at hb
    obtain rfl:=Option.some.inj hb
    exact ⟨fun kk oo hk ck=>hi.wi.dist kk j oo _ (hsub kk oo hk) hj (hM'.mem _ (look_mem hk)).2 ck trivial,hi.wi.new j _ hj trivial⟩) r5 r2 (scs_v _ vs)
  refine Oc.value hrun ?_
  have hW2:WI c.w0 c.L (ρ.bindV n v') (look ((n,.row e len (vs.map .v) te)::M')) (· < n+1) w':=by
   rw [look_upd]; exact hW'.mono fun q hq=>by have hq:q<n∨q=n:=hq; omega
  have hinv:=hi.put (ρ':=ρ.bindV n v') hd hag (Nat.le_succ n) (v := .opq n) (Nat.lt_succ_self n) hW2 (.inRegion ops r::k)
  rw [conc_bindV r2] at hinv
  exact h.go _ _ w' hinv
 cases p with
 | none =>
  have hl0:len=0:=by
   rcases hp with hp | ⟨_,_,hp,_⟩
   ·exact hp
   ·cases hp
  subst hl0
  obtain rfl:vs=[]:=List.length_eq_zero_iff.1 (by simpa using hvl)
  have hrun:(execOp a.eval o).run c.P w = .ok (.value (.slice (some ⟨ρ.s j,0,none⟩) 0 0)) w:=by
   simp [execOp,hop,resolve,invoke,builtin,hx1,h2,run_appendNil w hd1 g2 _ 0 0 cap (Nat.le_refl 0)]
  exact fin _ w (some (ρ.s j)) hrun hown ⟨rfl,rfl,rfl,Nat.le_refl _,fun _ _ _=>rfl⟩ (.inr rfl) (fun g hg => .inl hg)
 | some ad =>
  have hcell : ∀ jj u,vs[jj]? = some u→w.cell? (ad.add jj)=some u:=fun jj u hu=>by
   rcases hp with hp | ⟨blk,off,hp,_,hh⟩
   ·subst hp
    obtain rfl:vs=[]:=List.length_eq_zero_iff.1 (by simpa using hvl)
    cases hu
   ·obtain rfl:=Option.some.inj hp
    rw [addr_add]; exact hh jj u hu
  obtain ⟨v',w',row,r1,r2,r3,r4,r5⟩:=run_append_two (P:=c.P) w t o.type te inf z e hd1 g2 i3 g3 hzs he _ 0 _ hown ad len cap vs hvl hcell hone' (by simp only [maxLen]; omega) (by rw [g4,Nat.zero_add]; exact hfit.1)
  rw [Nat.zero_add,List.nil_append] at r2
  have hrun:(execOp a.eval o).run c.P w = .ok (.value v') w':=by
   simp [execOp,hop,resolve,invoke,builtin,hx1,h2,r1]
  exact fin v' w' row hrun r2 r3 (r4.imp id fun h=>h) r5
end Go.Sx
namespace Go.Proofs.Ytnnlpdgnlccbjaa
open Go.Sx
set_option maxRecDepth 100000
set_option maxHeartbeats 16000000
abbrev pfKn (Wn:Rul→Int→Int × Int) (CK:Mem→List SV→Option (List Nat × SV)):PF:=[(18,plainF (FWin_v Wn)),(15,CK),(37,plainF (FNil_v (.int .i64 0))),(30,plainF (FNil_v (.pointer none))),(14,plainF FTrue_v),(34+1000,FPl)]
def emR:List SV:=List.replicate 16 (.v (.map none))++[.v (.slice none 0 0),.v (.slice none 0 0),.v (.slice none 0 0),.v (.map none)]
theorem emR_sc (S:Nat→Prop):SV.scs S emR:=by simp [emR,SV.scs,SV.sc,List.replicate]
theorem learnKnown_walk (w:World):Calls Try.prog 11 #[] w fun e w'=>e = .returned (.bool true)∧Ext w w':=by
 obtain ⟨Wn,hWn⟩ : ∃ Wn,winR=Wn:=⟨_,rfl⟩
 obtain ⟨CK,hCK⟩ : ∃ CK,FCk learnChk=CK:=⟨_,rfl⟩
 have hpf:PF.oks Try.prog (pfKn Wn CK):=by rw [← hWn,← hCK]; exact ⟨win_pure,lchk_pure,now_pure,copy_pure,works_pure,mk_plastic,trivial⟩
 have hc : ∀ L' rd,(∀ p,rd=some p→p∈L')→Cx.ok ⟨Try.prog,tab,pfKn Wn CK,11,Try.f11,[],w,L',rd⟩:=fun L' rd h=>⟨tab_ok,hpf,Try.func11,mixed,h⟩
 obtain ⟨w1,w2,w3,w4,w5,w6⟩:=k_win
 rw [hWn] at w1 w2 w3 w4 w5 w6
 replace w1:Wn ⟨exRul.kind,exRul.up,exRul.down,exRul.shift,exRul.gain,exRul.keep,exRul.fade,exRul.lo,exRul.hi,exRul.sum⟩ 1=(2,0):=w1
 replace w2:Wn ⟨exRul.kind,exRul.up,exRul.down,exRul.shift,exRul.gain,exRul.keep,exRul.fade,exRul.lo,exRul.hi,exRul.sum⟩ 2=(1,0):=w2
 replace w3:Wn ⟨exRul.kind,exRul.up,exRul.down,exRul.shift,exRul.gain,exRul.keep,exRul.fade,exRul.lo,exRul.hi,exRul.sum⟩ 3=(0,0):=w3
 replace w4:Wn ⟨exRul.kind,exRul.up,exRul.down,exRul.shift,exRul.gain,exRul.keep,exRul.fade,exRul.lo,exRul.hi,exRul.sum⟩ 0=(0,0):=w4
 replace w5:Wn ⟨exRul.kind,exRul.up,exRul.down,exRul.shift,exRul.gain,exRul.keep,exRul.fade,exRul.lo,exRul.hi,exRul.sum⟩ (-1)=(-1,0):=w5
 replace w6:Wn ⟨exRul.kind,exRul.up,exRul.down,exRul.shift,exRul.gain,exRul.keep,exRul.fade,exRul.lo,exRul.hi,exRul.sum⟩ (-2)=(0,0):=w6
 refine Run.start0 (tab:=tab) (pf:=pfKn Wn CK) (cuts:=[]) mixed tab_ok hpf Try.func11 rfl [] 100 trivial rfl ?_
 conv=>whnf
 refine Run.callP (vs:=[]) (caps:=[]) example_spec (ent _ _ Try.func33 (by kernel_rfl) rfl) rfl rfl rfl rfl rfl rfl rfl (by decide) (by decide)
  trivial (fun i hi=>by cases hi) (.tup [.agg [.opq 0,ii 2,.opq 1],.agg (exRul.vals.map .v)]) [(0,.row 8 2 (([exPrm,exPrm].flatMap Prm.vals).map .v) 60),(1,.row 4 3 ((exS.flatMap Syn.vals).map .v) 55)] 2 rfl rfl
  ⟨.inr ⟨0,_,rfl,rfl,rfl,rfl⟩,.inr ⟨1,_,rfl,rfl,rfl,rfl⟩,trivial⟩ ?_
 refine Run.of_wpK (hc [] none (fun _ h=>by cases h)) 1000 _ ?_
 conv=>whnf
 refine Run.trim (T':=[(0,.v (.bool false)),(1,.ptr 2 0),(2,.ptr 3 0),(3,.slc 4 0 6 6),(4,.slc 5 0 6 6),(5,ii 0)]) (M':=[(4,.cells [ii 1,ii 2,ii 3,ii 0,ii (-1),ii (-2)] 3),(5,.cells [ii 2,ii 1,ii 0,ii 0,ii (-1),ii 0] 3),(2,.cells [.opq 0,ii 2,.opq 1] 25),(3,.cells (exRul.vals.map .v) 36),(0,.row 8 2 (([exPrm,exPrm].flatMap Prm.vals).map .v) 60),(1,.row 4 3 ((exS.flatMap Syn.vals).map .v) 55)]) 6 ⟨⟨rfl,trivial⟩,⟨rfl,(show 2<6 by decide)⟩,⟨rfl,(show 3<6 by decide)⟩,⟨rfl,(show 4<6 by decide)⟩,⟨rfl,(show 5<6 by decide)⟩,⟨rfl,trivial⟩,trivial⟩ ⟨⟨rfl,by omega,by simp [SObj.sc,SV.scs,SV.sc]⟩,⟨rfl,by omega,by simp [SObj.sc,SV.scs,SV.sc]⟩,⟨rfl,by omega,by simp [SObj.sc,SV.scs,SV.sc]⟩,⟨rfl,by omega,scs_v _ _⟩,⟨rfl,by omega,scs_v _ _⟩,⟨rfl,by omega,scs_v _ _⟩,trivial⟩ (fun p hp=>by cases hp) ?_
 refine Run.of_wpK (hc [] none (fun _ h=>by cases h)) 1000 _ ?_
 conv=>whnf
 refine Run.draw (hc [] none (fun _ h=>by cases h)) 10 ?_
 conv=>whnf
 refine ⟨by decide,?_⟩
 conv=>whnf
 refine ⟨by kernel_rfl,?_⟩
 refine Run.of_wpK (hc [] none (fun _ h=>by cases h)) 1000 _ ?_
 conv=>whnf
 refine ⟨by decide,?_⟩
 conv=>whnf
 rw [w1]
 conv=>whnf
 refine Run.trim (T':=[(0,.v (.bool false)),(1,.ptr 2 0),(2,.ptr 3 0),(3,.slc 4 0 6 6),(4,.slc 5 0 6 6),(5,ii 1)]) (M':=[(4,.cells [ii 1,ii 2,ii 3,ii 0,ii (-1),ii (-2)] 3),(5,.cells [ii 2,ii 1,ii 0,ii 0,ii (-1),ii 0] 3),(2,.cells [.opq 0,ii 2,.opq 1] 25),(3,.cells (exRul.vals.map .v) 36),(0,.row 8 2 (([exPrm,exPrm].flatMap Prm.vals).map .v) 60),(1,.row 4 3 ((exS.flatMap Syn.vals).map .v) 55)]) 6 ⟨⟨rfl,trivial⟩,⟨rfl,(show 2<6 by decide)⟩,⟨rfl,(show 3<6 by decide)⟩,⟨rfl,(show 4<6 by decide)⟩,⟨rfl,(show 5<6 by decide)⟩,⟨rfl,trivial⟩,trivial⟩ ⟨⟨rfl,by omega,by simp [SObj.sc,SV.scs,SV.sc]⟩,⟨rfl,by omega,by simp [SObj.sc,SV.scs,SV.sc]⟩,⟨rfl,by omega,by simp [SObj.sc,SV.scs,SV.sc]⟩,⟨rfl,by omega,scs_v _ _⟩,⟨rfl,by omega,scs_v _ _⟩,⟨rfl,by omega,scs_v _ _⟩,trivial⟩ (fun p hp=>by cases hp) ?_
 refine Run.of_wpK (hc [] none (fun _ h=>by cases h)) 1000 _ ?_
 conv=>whnf
 refine Run.draw (hc [] none (fun _ h=>by cases h)) 10 ?_
 conv=>whnf
 refine ⟨by decide,?_⟩
 conv=>whnf
 refine ⟨by kernel_rfl,?_⟩
 refine Run.of_wpK (hc [] none (fun _ h=>by cases h)) 1000 _ ?_
 conv=>whnf
 refine ⟨by decide,?_⟩
 conv=>whnf
 rw [w2]
 conv=>whnf
 refine Run.trim (T':=[(0,.v (.bool false)),(1,.ptr 2 0),(2,.ptr 3 0),(3,.slc 4 0 6 6),(4,.slc 5 0 6 6),(5,ii 2)]) (M':=[(4,.cells [ii 1,ii 2,ii 3,ii 0,ii (-1),ii (-2)] 3),(5,.cells [ii 2,ii 1,ii 0,ii 0,ii (-1),ii 0] 3),(2,.cells [.opq 0,ii 2,.opq 1] 25),(3,.cells (exRul.vals.map .v) 36),(0,.row 8 2 (([exPrm,exPrm].flatMap Prm.vals).map .v) 60),(1,.row 4 3 ((exS.flatMap Syn.vals).map .v) 55)]) 6 ⟨⟨rfl,trivial⟩,⟨rfl,(show 2<6 by decide)⟩,⟨rfl,(show 3<6 by decide)⟩,⟨rfl,(show 4<6 by decide)⟩,⟨rfl,(show 5<6 by decide)⟩,⟨rfl,trivial⟩,trivial⟩ ⟨⟨rfl,by omega,by simp [SObj.sc,SV.scs,SV.sc]⟩,⟨rfl,by omega,by simp [SObj.sc,SV.scs,SV.sc]⟩,⟨rfl,by omega,by simp [SObj.sc,SV.scs,SV.sc]⟩,⟨rfl,by omega,scs_v _ _⟩,⟨rfl,by omega,scs_v _ _⟩,⟨rfl,by omega,scs_v _ _⟩,trivial⟩ (fun p hp=>by cases hp) ?_
 refine Run.of_wpK (hc [] none (fun _ h=>by cases h)) 1000 _ ?_
 conv=>whnf
 refine Run.draw (hc [] none (fun _ h=>by cases h)) 10 ?_
 conv=>whnf
 refine ⟨by decide,?_⟩
 conv=>whnf
 refine ⟨by kernel_rfl,?_⟩
 refine Run.of_wpK (hc [] none (fun _ h=>by cases h)) 1000 _ ?_
 conv=>whnf
 refine ⟨by decide,?_⟩
 conv=>whnf
 rw [w3]
 conv=>whnf
 refine Run.trim (T':=[(0,.v (.bool false)),(1,.ptr 2 0),(2,.ptr 3 0),(3,.slc 4 0 6 6),(4,.slc 5 0 6 6),(5,ii 3)]) (M':=[(4,.cells [ii 1,ii 2,ii 3,ii 0,ii (-1),ii (-2)] 3),(5,.cells [ii 2,ii 1,ii 0,ii 0,ii (-1),ii 0] 3),(2,.cells [.opq 0,ii 2,.opq 1] 25),(3,.cells (exRul.vals.map .v) 36),(0,.row 8 2 (([exPrm,exPrm].flatMap Prm.vals).map .v) 60),(1,.row 4 3 ((exS.flatMap Syn.vals).map .v) 55)]) 6 ⟨⟨rfl,trivial⟩,⟨rfl,(show 2<6 by decide)⟩,⟨rfl,(show 3<6 by decide)⟩,⟨rfl,(show 4<6 by decide)⟩,⟨rfl,(show 5<6 by decide)⟩,⟨rfl,trivial⟩,trivial⟩ ⟨⟨rfl,by omega,by simp [SObj.sc,SV.scs,SV.sc]⟩,⟨rfl,by omega,by simp [SObj.sc,SV.scs,SV.sc]⟩,⟨rfl,by omega,by simp [SObj.sc,SV.scs,SV.sc]⟩,⟨rfl,by omega,scs_v _ _⟩,⟨rfl,by omega,scs_v _ _⟩,⟨rfl,by omega,scs_v _ _⟩,trivial⟩ (fun p hp=>by cases hp) ?_
 refine Run.of_wpK (hc [] none (fun _ h=>by cases h)) 1000 _ ?_
 conv=>whnf
 refine Run.draw (hc [] none (fun _ h=>by cases h)) 10 ?_
 conv=>whnf
 refine ⟨by decide,?_⟩
 conv=>whnf
 refine ⟨by kernel_rfl,?_⟩
 refine Run.of_wpK (hc [] none (fun _ h=>by cases h)) 1000 _ ?_
 conv=>whnf
 refine ⟨by decide,?_⟩
 conv=>whnf
 rw [w4]
 conv=>whnf
 refine Run.trim (T':=[(0,.v (.bool false)),(1,.ptr 2 0),(2,.ptr 3 0),(3,.slc 4 0 6 6),(4,.slc 5 0 6 6),(5,ii 4)]) (M':=[(4,.cells [ii 1,ii 2,ii 3,ii 0,ii (-1),ii (-2)] 3),(5,.cells [ii 2,ii 1,ii 0,ii 0,ii (-1),ii 0] 3),(2,.cells [.opq 0,ii 2,.opq 1] 25),(3,.cells (exRul.vals.map .v) 36),(0,.row 8 2 (([exPrm,exPrm].flatMap Prm.vals).map .v) 60),(1,.row 4 3 ((exS.flatMap Syn.vals).map .v) 55)]) 6 ⟨⟨rfl,trivial⟩,⟨rfl,(show 2<6 by decide)⟩,⟨rfl,(show 3<6 by decide)⟩,⟨rfl,(show 4<6 by decide)⟩,⟨rfl,(show 5<6 by decide)⟩,⟨rfl,trivial⟩,trivial⟩ ⟨⟨rfl,by omega,by simp [SObj.sc,SV.scs,SV.sc]⟩,⟨rfl,by omega,by simp [SObj.sc,SV.scs,SV.sc]⟩,⟨rfl,by omega,by simp [SObj.sc,SV.scs,SV.sc]⟩,⟨rfl,by omega,scs_v _ _⟩,⟨rfl,by omega,scs_v _ _⟩,⟨rfl,by omega,scs_v _ _⟩,trivial⟩ (fun p hp=>by cases hp) ?_
 refine Run.of_wpK (hc [] none (fun _ h=>by cases h)) 1000 _ ?_
 conv=>whnf
 refine Run.draw (hc [] none (fun _ h=>by cases h)) 10 ?_
 conv=>whnf
 refine ⟨by decide,?_⟩
 conv=>whnf
 refine ⟨by kernel_rfl,?_⟩
 refine Run.of_wpK (hc [] none (fun _ h=>by cases h)) 1000 _ ?_
 conv=>whnf
 refine ⟨by decide,?_⟩
 conv=>whnf
 rw [w5]
 conv=>whnf
 refine Run.trim (T':=[(0,.v (.bool false)),(1,.ptr 2 0),(2,.ptr 3 0),(3,.slc 4 0 6 6),(4,.slc 5 0 6 6),(5,ii 5)]) (M':=[(4,.cells [ii 1,ii 2,ii 3,ii 0,ii (-1),ii (-2)] 3),(5,.cells [ii 2,ii 1,ii 0,ii 0,ii (-1),ii 0] 3),(2,.cells [.opq 0,ii 2,.opq 1] 25),(3,.cells (exRul.vals.map .v) 36),(0,.row 8 2 (([exPrm,exPrm].flatMap Prm.vals).map .v) 60),(1,.row 4 3 ((exS.flatMap Syn.vals).map .v) 55)]) 6 ⟨⟨rfl,trivial⟩,⟨rfl,(show 2<6 by decide)⟩,⟨rfl,(show 3<6 by decide)⟩,⟨rfl,(show 4<6 by decide)⟩,⟨rfl,(show 5<6 by decide)⟩,⟨rfl,trivial⟩,trivial⟩ ⟨⟨rfl,by omega,by simp [SObj.sc,SV.scs,SV.sc]⟩,⟨rfl,by omega,by simp [SObj.sc,SV.scs,SV.sc]⟩,⟨rfl,by omega,by simp [SObj.sc,SV.scs,SV.sc]⟩,⟨rfl,by omega,scs_v _ _⟩,⟨rfl,by omega,scs_v _ _⟩,⟨rfl,by omega,scs_v _ _⟩,trivial⟩ (fun p hp=>by cases hp) ?_
 refine Run.of_wpK (hc [] none (fun _ h=>by cases h)) 1000 _ ?_
 conv=>whnf
 refine Run.draw (hc [] none (fun _ h=>by cases h)) 10 ?_
 conv=>whnf
 refine ⟨by decide,?_⟩
 conv=>whnf
 refine ⟨by kernel_rfl,?_⟩
 refine Run.of_wpK (hc [] none (fun _ h=>by cases h)) 1000 _ ?_
 conv=>whnf
 refine ⟨by decide,?_⟩
 conv=>whnf
 rw [w6]
 conv=>whnf
 refine Run.trim (T':=[(0,.v (.bool false)),(1,.ptr 2 0),(2,.ptr 3 0),(3,.slc 4 0 6 6),(4,.slc 5 0 6 6),(5,ii 6)]) (M':=[(4,.cells [ii 1,ii 2,ii 3,ii 0,ii (-1),ii (-2)] 3),(5,.cells [ii 2,ii 1,ii 0,ii 0,ii (-1),ii 0] 3),(2,.cells [.opq 0,ii 2,.opq 1] 25),(3,.cells (exRul.vals.map .v) 36),(0,.row 8 2 (([exPrm,exPrm].flatMap Prm.vals).map .v) 60),(1,.row 4 3 ((exS.flatMap Syn.vals).map .v) 55)]) 6 ⟨⟨rfl,trivial⟩,⟨rfl,(show 2<6 by decide)⟩,⟨rfl,(show 3<6 by decide)⟩,⟨rfl,(show 4<6 by decide)⟩,⟨rfl,(show 5<6 by decide)⟩,⟨rfl,trivial⟩,trivial⟩ ⟨⟨rfl,by omega,by simp [SObj.sc,SV.scs,SV.sc]⟩,⟨rfl,by omega,by simp [SObj.sc,SV.scs,SV.sc]⟩,⟨rfl,by omega,by simp [SObj.sc,SV.scs,SV.sc]⟩,⟨rfl,by omega,scs_v _ _⟩,⟨rfl,by omega,scs_v _ _⟩,⟨rfl,by omega,scs_v _ _⟩,trivial⟩ (fun p hp=>by cases hp) ?_
 refine Run.of_wpK (hc [] none (fun _ h=>by cases h)) 1000 _ ?_
 conv=>whnf
 refine Run.trim (T':=[(0,.v (.bool false)),(1,.ptr 2 0),(2,.ptr 3 0)]) (M':=[(2,.cells [.opq 0,ii 2,.opq 1] 25),(3,.cells (exRul.vals.map .v) 36),(0,.row 8 2 (([exPrm,exPrm].flatMap Prm.vals).map .v) 60),(1,.row 4 3 ((exS.flatMap Syn.vals).map .v) 55)]) 6 ⟨⟨rfl,trivial⟩,⟨rfl,(show 2<6 by decide)⟩,⟨rfl,(show 3<6 by decide)⟩,trivial⟩ ⟨⟨rfl,by omega,by simp [SObj.sc,SV.scs,SV.sc]⟩,⟨rfl,by omega,scs_v _ _⟩,⟨rfl,by omega,scs_v _ _⟩,⟨rfl,by omega,scs_v _ _⟩,trivial⟩ (fun p hp=>by cases hp) ?_
 have htr:=train_nil (trdX exNet exRul []) exEv2 10 ex_chk k_prep (by decide)
 rw [k_out] at htr
 have hnow:nowL (trdX exNet exRul []).n.S (trS (trdX exNet exRul []) exEv2 [] 10).m=[⟨-1,0,5,1⟩,⟨-2,1,5,1⟩,⟨0,1,1,1⟩]:=k_now
 rw [hnow] at htr
 apply joinL [(0,.v (.bool false)),(1,.ptr 2 0),(2,.ptr 3 0),(8,.opq 24),(9,.ptr 18 0),(10,ii 0)] [(24,.row 2 2 (([⟨1,0⟩,⟨1,1⟩]:List Evt).flatMap Evt.cells) 62),(26,.row 4 3 (([⟨-1,0,5,1⟩,⟨-2,1,5,1⟩,⟨0,1,1,1⟩]:List Syn).flatMap Syn.cells) 55),(18,.cells [.opq 25,ii 2,.opq 26] 25),(2,.cells [.opq 0,ii 2,.opq 1] 25),(3,.cells (exRul.vals.map .v) 36),(0,.row 8 2 (([exPrm,exPrm].flatMap Prm.vals).map .v) 60),(1,.row 4 3 ((exS.flatMap Syn.vals).map .v) 55)] 48
 ·intro tail
  skip
  refine Run.draw0 (hc [] none (fun _ h=>by cases h)) fun l0 hl0 => ?_
  have hlin:=Lin.ofGo [0,1,2,3,4,5,6,7,8,9,10,11,12,13,14,15] hl0 rfl (by decide)
  apply joinA [(9,.ptr 18 0),(0,.v (.bool false)),(1,.ptr 2 0),(2,.ptr 3 0),(52,.agg [.opq 0,ii 2,.opq 1]),(54,.slc 8 0 1 1),(55,.opq 9),(58,.slc 12 0 2 2)] [(18,.cells [.v (.slice none 0 0),ii 0,.v (.slice none 0 0)] 25),(8,.cells (exRul.vals.map .v) 36),(9,.row 1 3 [ii (-1),ii (-1),ii 0] 3),(12,.cells [ii 0,ii 0,ii 0,ii 1] 62),(2,.cells [.opq 0,ii 2,.opq 1] 25),(3,.cells (exRul.vals.map .v) 36),(0,.row 8 2 (([exPrm,exPrm].flatMap Prm.vals).map .v) 60),(1,.row 4 3 ((exS.flatMap Syn.vals).map .v) 55)] 22 [7,8,9,10,11,13,14,15]
  ·intro g1
   refine Run.drawQ (hc [] none (fun _ h=>by cases h)) [0,1,2,3,4,5,6] [12] [7,8,9,10,11,13,14,15] hlin ?_
   conv=>whnf
   refine ⟨by kernel_rfl,fun l1 hl1 => ?_,.inr ⟨[(0,.v (.bool false)),(1,.ptr 2 0),(2,.ptr 3 0),(52,.agg [.opq 0,ii 2,.opq 1]),(54,.slc 8 0 1 1),(55,.opq 9),(58,.slc 12 0 2 2)],[(8,.cells (exRul.vals.map .v) 36),(9,.row 1 3 [ii (-1),ii (-1),ii 0] 3),(12,.cells [ii 0,ii 0,ii 0,ii 1] 62),(2,.cells [.opq 0,ii 2,.opq 1] 25),(3,.cells (exRul.vals.map .v) 36),(0,.row 8 2 (([exPrm,exPrm].flatMap Prm.vals).map .v) 60),(1,.row 4 3 ((exS.flatMap Syn.vals).map .v) 55)],by kernel_rfl,⟨rfl,rfl,rfl,rfl,rfl,rfl,rfl,trivial⟩,⟨rfl,rfl,rfl,rfl,rfl,rfl,rfl,trivial⟩,fun l1 hl1 => ?_⟩⟩
   ·exact Run.trim (T':=[(9,.ptr 18 0),(0,.v (.bool false)),(1,.ptr 2 0),(2,.ptr 3 0),(52,.agg [.opq 0,ii 2,.opq 1]),(54,.slc 8 0 1 1),(55,.opq 9),(58,.slc 12 0 2 2)]) (M':=[(18,.cells [.v (.slice none 0 0),ii 0,.v (.slice none 0 0)] 25),(8,.cells (exRul.vals.map .v) 36),(9,.row 1 3 [ii (-1),ii (-1),ii 0] 3),(12,.cells [ii 0,ii 0,ii 0,ii 1] 62),(2,.cells [.opq 0,ii 2,.opq 1] 25),(3,.cells (exRul.vals.map .v) 36),(0,.row 8 2 (([exPrm,exPrm].flatMap Prm.vals).map .v) 60),(1,.row 4 3 ((exS.flatMap Syn.vals).map .v) 55)]) 22 ⟨⟨rfl,(show 18<22 by decide)⟩,⟨rfl,trivial⟩,⟨rfl,(show 2<22 by decide)⟩,⟨rfl,(show 3<22 by decide)⟩,⟨rfl,⟨(show 0<22 by decide),trivial,(show 1<22 by decide),trivial⟩⟩,⟨rfl,(show 8<22 by decide)⟩,⟨rfl,(show 9<22 by decide)⟩,⟨rfl,(show 12<22 by decide)⟩,trivial⟩ ⟨⟨rfl,by omega,by simp [SObj.sc,SV.scs,SV.sc]⟩,⟨rfl,by omega,scs_v _ _⟩,⟨rfl,by omega,by simp [SObj.sc,SV.scs,SV.sc]⟩,⟨rfl,by omega,by simp [SObj.sc,SV.scs,SV.sc]⟩,⟨rfl,by omega,by simp [SObj.sc,SV.scs,SV.sc]⟩,⟨rfl,by omega,scs_v _ _⟩,⟨rfl,by omega,scs_v _ _⟩,⟨rfl,by omega,scs_v _ _⟩,trivial⟩ (fun p hp=>by cases hp) (g1 l1 hl1)
   ·obtain ⟨i,l2,rfl,hi,_,hl2⟩:=hl1.next [7,12] rfl rfl rfl
    have hi2:i=7∨i=12:=by simpa using hi
    rcases hi2 with rfl | rfl
    ·refine Run.slcRowE (T':=[(0,.v (.bool false)),(1,.ptr 2 0),(2,.ptr 3 0),(52,.agg [.opq 0,ii 2,.opq 1]),(54,.opq 22),(55,.opq 9),(58,.slc 12 0 2 2)]) (M':=[(9,.row 1 3 [ii (-1),ii (-1),ii 0] 3),(12,.cells [ii 0,ii 0,ii 0,ii 1] 62),(2,.cells [.opq 0,ii 2,.opq 1] 25),(3,.cells (exRul.vals.map .v) 36),(0,.row 8 2 (([exPrm,exPrm].flatMap Prm.vals).map .v) 60),(1,.row 4 3 ((exS.flatMap Syn.vals).map .v) 55)]) 8 10 1 (exRul.vals.map .v) 36 rfl rfl (by omega) (AllP.mem ⟨.inl rfl,.inl rfl,.inl rfl,.inl rfl,.inr ⟨rfl,rfl⟩,.inl rfl,.inl rfl,trivial⟩) (AllP.mem ⟨⟨rfl,(show 9≠8 by decide)⟩,⟨rfl,(show 12≠8 by decide)⟩,⟨rfl,(show 2≠8 by decide)⟩,⟨rfl,(show 3≠8 by decide)⟩,⟨rfl,(show 0≠8 by decide)⟩,⟨rfl,(show 1≠8 by decide)⟩,trivial⟩) ?_
     refine Run.slcRowE (T':=[(0,.v (.bool false)),(1,.ptr 2 0),(2,.ptr 3 0),(52,.agg [.opq 0,ii 2,.opq 1]),(54,.opq 22),(55,.opq 9),(58,.opq 23)]) (M':=[(22,.row 10 1 (exRul.vals.map .v) 36),(9,.row 1 3 [ii (-1),ii (-1),ii 0] 3),(2,.cells [.opq 0,ii 2,.opq 1] 25),(3,.cells (exRul.vals.map .v) 36),(0,.row 8 2 (([exPrm,exPrm].flatMap Prm.vals).map .v) 60),(1,.row 4 3 ((exS.flatMap Syn.vals).map .v) 55)]) 12 2 2 [ii 0,ii 0,ii 0,ii 1] 62 rfl rfl (by omega) (AllP.mem ⟨.inl rfl,.inl rfl,.inl rfl,.inl rfl,.inl rfl,.inl rfl,.inr ⟨rfl,rfl⟩,trivial⟩) (AllP.mem ⟨⟨rfl,(show 22≠12 by decide)⟩,⟨rfl,(show 9≠12 by decide)⟩,⟨rfl,(show 2≠12 by decide)⟩,⟨rfl,(show 3≠12 by decide)⟩,⟨rfl,(show 0≠12 by decide)⟩,⟨rfl,(show 1≠12 by decide)⟩,trivial⟩) ?_
     refine Run.callR (vs:=[.agg [.opq 0,ii 2,.opq 1],.opq 2,.opq 3,.opq 4,.v (.slice none 0 0),ii 10]) (caps:=[]) (caps2:=[]) htr (ent _ _ Try.func20 (by kernel_rfl) rfl) rfl rfl rfl rfl rfl rfl [.agg [.opq 0,ii 2,.opq 1],.opq 22,.opq 9,.opq 23,.v (.slice none 0 0),ii 10] rfl (fun q=>if q=2 then 22 else if q=3 then 9 else if q=4 then 23 else if q=5 then 2 else q) rfl (fun i hi=>by have inv : ∀ i,i<6→(fun q=>if q=2 then 22 else if q=3 then 9 else if q=4 then 23 else if q=5 then 2 else q) i<24:=(by decide); exact inv i hi) (fun i hi j hj hne=>by have inj : ∀ i,i<6 → ∀ j,j<6→i≠j→(fun q=>if q=2 then 22 else if q=3 then 9 else if q=4 then 23 else if q=5 then 2 else q) i≠(fun q=>if q=2 then 22 else if q=3 then 9 else if q=4 then 23 else if q=5 then 2 else q) j:=(by decide); exact inj i hi j hj hne) (by decide)
      ⟨⟨by omega,trivial,⟨_,rfl,Conv.row (by decide) rfl⟩,.inl rfl,fun _=>by simp⟩,⟨by omega,trivial,⟨_,rfl,Conv.row (by decide) rfl⟩,.inl rfl,fun _=>by simp⟩,⟨by omega,trivial,⟨_,rfl,Conv.row (by decide) rfl⟩,.inl rfl,fun _=>by simp⟩,⟨by omega,trivial,⟨_,rfl,Conv.row (by decide) rfl⟩,.inl rfl,fun _=>by simp⟩,⟨by omega,trivial,⟨_,rfl,Conv.row (by decide) rfl⟩,.inl rfl,fun _=>by simp⟩,trivial⟩ (fun i hi=>by cases hi) (.tup [.opq 24,.agg [.opq 25,ii 2,.opq 26],ii 0]) [(24,.row 2 2 (([⟨1,0⟩,⟨1,1⟩]:List Evt).flatMap Evt.cells) 62),(26,.row 4 3 (([⟨-1,0,5,1⟩,⟨-2,1,5,1⟩,⟨0,1,1,1⟩]:List Syn).flatMap Syn.cells) 55),(2,.cells [.opq 0,ii 2,.opq 1] 25),(3,.cells (exRul.vals.map .v) 36),(0,.row 8 2 (([exPrm,exPrm].flatMap Prm.vals).map .v) 60),(1,.row 4 3 ((exS.flatMap Syn.vals).map .v) 55)] 27 rfl rfl
      ⟨.inr ⟨6,_,rfl,rfl,(oren_fix (S:=fun _=>False) (fun i hi=>hi.elim) (o := .row 2 2 (([⟨1,0⟩,⟨1,1⟩]:List Evt).flatMap Evt.cells) 62) (scs_evts _ _)).symm,rfl⟩,.inr ⟨8,_,rfl,rfl,(oren_fix (S:=fun _=>False) (fun i hi=>hi.elim) (o := .row 4 3 (([⟨-1,0,5,1⟩,⟨-2,1,5,1⟩,⟨0,1,1,1⟩]:List Syn).flatMap Syn.cells) 55) (scs_syns _ _)).symm,rfl⟩,.inl ⟨rfl,fun i hi=>by cases hi⟩,.inl ⟨rfl,fun i hi=>by cases hi⟩,.inl ⟨rfl,fun i hi=>by cases hi⟩,.inl ⟨rfl,fun i hi=>by cases hi⟩,trivial⟩ ?_
     refine Run.drawQ (hc [] none (fun _ h=>by cases h)) [8,9,10,11,12,13,14,15] [] [] hl2 ?_
     conv=>whnf
     refine ⟨by kernel_rfl,fun l3 hl3 => ?_,.inl rfl⟩
     obtain rfl:=hl3.nil
     refine Run.trimQ (T':=[(0,.v (.bool false)),(1,.ptr 2 0),(2,.ptr 3 0),(8,.opq 24),(9,.ptr 18 0),(10,ii 0)]) (M':=[(24,.row 2 2 (([⟨1,0⟩,⟨1,1⟩]:List Evt).flatMap Evt.cells) 62),(26,.row 4 3 (([⟨-1,0,5,1⟩,⟨-2,1,5,1⟩,⟨0,1,1,1⟩]:List Syn).flatMap Syn.cells) 55),(18,.cells [.opq 25,ii 2,.opq 26] 25),(2,.cells [.opq 0,ii 2,.opq 1] 25),(3,.cells (exRul.vals.map .v) 36),(0,.row 8 2 (([exPrm,exPrm].flatMap Prm.vals).map .v) 60),(1,.row 4 3 ((exS.flatMap Syn.vals).map .v) 55)]) (rq [(18,39),(39,18)]) 48 ?_ ?_ ?_ ?_ tail
     ·intro i hi j hj hne he
      have inv : ∀ i,i<48→rq [(18,39),(39,18)] (rq [(18,39),(39,18)] i)=i:=by decide
      exact hne (by rw [← inv i hi,he,inv j hj])
     ·exact ⟨⟨rfl,trivial⟩,⟨rfl,(show 2<48 by decide)⟩,⟨rfl,(show 3<48 by decide)⟩,⟨rfl,(show 24<48 by decide)⟩,⟨rfl,(show 18<48 by decide)⟩,⟨rfl,trivial⟩,trivial⟩
     ·exact ⟨⟨congrArg some (oren_fix (S:=fun _=>False) (fun i hi=>hi.elim) (o := .row 2 2 (([⟨1,0⟩,⟨1,1⟩]:List Evt).flatMap Evt.cells) 62) (scs_evts _ _)).symm,by omega,scs_evts _ _⟩,⟨congrArg some (oren_fix (S:=fun _=>False) (fun i hi=>hi.elim) (o := .row 4 3 (([⟨-1,0,5,1⟩,⟨-2,1,5,1⟩,⟨0,1,1,1⟩]:List Syn).flatMap Syn.cells) 55) (scs_syns _ _)).symm,by omega,scs_syns _ _⟩,⟨rfl,by omega,by simp [SObj.sc,SV.scs,SV.sc]⟩,⟨rfl,by omega,by simp [SObj.sc,SV.scs,SV.sc]⟩,⟨congrArg some (oren_fix (S:=fun _=>False) (fun i hi=>hi.elim) (o := .cells (exRul.vals.map .v) 36) (scs_v _ _)).symm,by omega,scs_v _ _⟩,⟨congrArg some (oren_fix (S:=fun _=>False) (fun i hi=>hi.elim) (o := .row 8 2 (([exPrm,exPrm].flatMap Prm.vals).map .v) 60) (scs_v _ _)).symm,by omega,scs_v _ _⟩,⟨congrArg some (oren_fix (S:=fun _=>False) (fun i hi=>hi.elim) (o := .row 4 3 ((exS.flatMap Syn.vals).map .v) 55) (scs_v _ _)).symm,by omega,scs_v _ _⟩,trivial⟩
     ·intro p hp; cases hp
    ·refine Run.of_wpK (hc [] none (fun _ h=>by cases h)) 1 _ ?_
     conv=>whnf
     refine Run.trimQ (T':=[(9,.ptr 18 0),(0,.v (.bool false)),(1,.ptr 2 0),(2,.ptr 3 0),(52,.agg [.opq 0,ii 2,.opq 1]),(54,.slc 8 0 1 1),(55,.opq 9),(58,.slc 12 0 2 2)]) (M':=[(18,.cells [.v (.slice none 0 0),ii 0,.v (.slice none 0 0)] 25),(8,.cells (exRul.vals.map .v) 36),(9,.row 1 3 [ii (-1),ii (-1),ii 0] 3),(12,.cells [ii 0,ii 0,ii 0,ii 1] 62),(2,.cells [.opq 0,ii 2,.opq 1] 25),(3,.cells (exRul.vals.map .v) 36),(0,.row 8 2 (([exPrm,exPrm].flatMap Prm.vals).map .v) 60),(1,.row 4 3 ((exS.flatMap Syn.vals).map .v) 55)]) (rq [(18,22),(22,18)]) 22 ?_ ?_ ?_ ?_ (g1 l2 hl2)
     ·intro i hi j hj hne he
      have inv : ∀ i,i<22→rq [(18,22),(22,18)] (rq [(18,22),(22,18)] i)=i:=by decide
      exact hne (by rw [← inv i hi,he,inv j hj])
     ·exact ⟨⟨rfl,(show 18<22 by decide)⟩,⟨rfl,trivial⟩,⟨rfl,(show 2<22 by decide)⟩,⟨rfl,(show 3<22 by decide)⟩,⟨rfl,⟨(show 0<22 by decide),trivial,(show 1<22 by decide),trivial⟩⟩,⟨rfl,(show 8<22 by decide)⟩,⟨rfl,(show 9<22 by decide)⟩,⟨rfl,(show 12<22 by decide)⟩,trivial⟩
     ·exact ⟨⟨rfl,by omega,by simp [SObj.sc,SV.scs,SV.sc]⟩,⟨congrArg some (oren_fix (S:=fun _=>False) (fun i hi=>hi.elim) (o := .cells (exRul.vals.map .v) 36) (scs_v _ _)).symm,by omega,scs_v _ _⟩,⟨rfl,by omega,by simp [SObj.sc,SV.scs,SV.sc]⟩,⟨rfl,by omega,by simp [SObj.sc,SV.scs,SV.sc]⟩,⟨rfl,by omega,by simp [SObj.sc,SV.scs,SV.sc]⟩,⟨congrArg some (oren_fix (S:=fun _=>False) (fun i hi=>hi.elim) (o := .cells (exRul.vals.map .v) 36) (scs_v _ _)).symm,by omega,scs_v _ _⟩,⟨congrArg some (oren_fix (S:=fun _=>False) (fun i hi=>hi.elim) (o := .row 8 2 (([exPrm,exPrm].flatMap Prm.vals).map .v) 60) (scs_v _ _)).symm,by omega,scs_v _ _⟩,⟨congrArg some (oren_fix (S:=fun _=>False) (fun i hi=>hi.elim) (o := .row 4 3 ((exS.flatMap Syn.vals).map .v) 55) (scs_v _ _)).symm,by omega,scs_v _ _⟩,trivial⟩
     ·intro p hp; cases hp
  ·intro l1 hl1
   obtain ⟨i,l2,rfl,hi,_,hl2⟩:=hl1.next [7] rfl rfl rfl
   obtain rfl:i=7:=by simpa using hi
   refine Run.slcRowE (T':=[(9,.ptr 18 0),(0,.v (.bool false)),(1,.ptr 2 0),(2,.ptr 3 0),(52,.agg [.opq 0,ii 2,.opq 1]),(54,.opq 22),(55,.opq 9),(58,.slc 12 0 2 2)]) (M':=[(18,.cells [.v (.slice none 0 0),ii 0,.v (.slice none 0 0)] 25),(9,.row 1 3 [ii (-1),ii (-1),ii 0] 3),(12,.cells [ii 0,ii 0,ii 0,ii 1] 62),(2,.cells [.opq 0,ii 2,.opq 1] 25),(3,.cells (exRul.vals.map .v) 36),(0,.row 8 2 (([exPrm,exPrm].flatMap Prm.vals).map .v) 60),(1,.row 4 3 ((exS.flatMap Syn.vals).map .v) 55)]) 8 10 1 (exRul.vals.map .v) 36 rfl rfl (by omega) (AllP.mem ⟨.inl rfl,.inl rfl,.inl rfl,.inl rfl,.inl rfl,.inr ⟨rfl,rfl⟩,.inl rfl,.inl rfl,trivial⟩) (AllP.mem ⟨⟨rfl,(show 18≠8 by decide)⟩,⟨rfl,(show 9≠8 by decide)⟩,⟨rfl,(show 12≠8 by decide)⟩,⟨rfl,(show 2≠8 by decide)⟩,⟨rfl,(show 3≠8 by decide)⟩,⟨rfl,(show 0≠8 by decide)⟩,⟨rfl,(show 1≠8 by decide)⟩,trivial⟩) ?_
   refine Run.slcRowE (T':=[(9,.ptr 18 0),(0,.v (.bool false)),(1,.ptr 2 0),(2,.ptr 3 0),(52,.agg [.opq 0,ii 2,.opq 1]),(54,.opq 22),(55,.opq 9),(58,.opq 23)]) (M':=[(22,.row 10 1 (exRul.vals.map .v) 36),(18,.cells [.v (.slice none 0 0),ii 0,.v (.slice none 0 0)] 25),(9,.row 1 3 [ii (-1),ii (-1),ii 0] 3),(2,.cells [.opq 0,ii 2,.opq 1] 25),(3,.cells (exRul.vals.map .v) 36),(0,.row 8 2 (([exPrm,exPrm].flatMap Prm.vals).map .v) 60),(1,.row 4 3 ((exS.flatMap Syn.vals).map .v) 55)]) 12 2 2 [ii 0,ii 0,ii 0,ii 1] 62 rfl rfl (by omega) (AllP.mem ⟨.inl rfl,.inl rfl,.inl rfl,.inl rfl,.inl rfl,.inl rfl,.inl rfl,.inr ⟨rfl,rfl⟩,trivial⟩) (AllP.mem ⟨⟨rfl,(show 22≠12 by decide)⟩,⟨rfl,(show 18≠12 by decide)⟩,⟨rfl,(show 9≠12 by decide)⟩,⟨rfl,(show 2≠12 by decide)⟩,⟨rfl,(show 3≠12 by decide)⟩,⟨rfl,(show 0≠12 by decide)⟩,⟨rfl,(show 1≠12 by decide)⟩,trivial⟩) ?_
   refine Run.callR (vs:=[.agg [.opq 0,ii 2,.opq 1],.opq 2,.opq 3,.opq 4,.v (.slice none 0 0),ii 10]) (caps:=[]) (caps2:=[]) htr (ent _ _ Try.func20 (by kernel_rfl) rfl) rfl rfl rfl rfl rfl rfl [.agg [.opq 0,ii 2,.opq 1],.opq 22,.opq 9,.opq 23,.v (.slice none 0 0),ii 10] rfl (fun q=>if q=2 then 22 else if q=3 then 9 else if q=4 then 23 else if q=5 then 2 else q) rfl (fun i hi=>by have inv : ∀ i,i<6→(fun q=>if q=2 then 22 else if q=3 then 9 else if q=4 then 23 else if q=5 then 2 else q) i<24:=(by decide); exact inv i hi) (fun i hi j hj hne=>by have inj : ∀ i,i<6 → ∀ j,j<6→i≠j→(fun q=>if q=2 then 22 else if q=3 then 9 else if q=4 then 23 else if q=5 then 2 else q) i≠(fun q=>if q=2 then 22 else if q=3 then 9 else if q=4 then 23 else if q=5 then 2 else q) j:=(by decide); exact inj i hi j hj hne) (by decide)
    ⟨⟨by omega,trivial,⟨_,rfl,Conv.row (by decide) rfl⟩,.inl rfl,fun _=>by simp⟩,⟨by omega,trivial,⟨_,rfl,Conv.row (by decide) rfl⟩,.inl rfl,fun _=>by simp⟩,⟨by omega,trivial,⟨_,rfl,Conv.row (by decide) rfl⟩,.inl rfl,fun _=>by simp⟩,⟨by omega,trivial,⟨_,rfl,Conv.row (by decide) rfl⟩,.inl rfl,fun _=>by simp⟩,⟨by omega,trivial,⟨_,rfl,Conv.row (by decide) rfl⟩,.inl rfl,fun _=>by simp⟩,trivial⟩ (fun i hi=>by cases hi) (.tup [.opq 24,.agg [.opq 25,ii 2,.opq 26],ii 0]) [(24,.row 2 2 (([⟨1,0⟩,⟨1,1⟩]:List Evt).flatMap Evt.cells) 62),(26,.row 4 3 (([⟨-1,0,5,1⟩,⟨-2,1,5,1⟩,⟨0,1,1,1⟩]:List Syn).flatMap Syn.cells) 55),(18,.cells [.v (.slice none 0 0),ii 0,.v (.slice none 0 0)] 25),(2,.cells [.opq 0,ii 2,.opq 1] 25),(3,.cells (exRul.vals.map .v) 36),(0,.row 8 2 (([exPrm,exPrm].flatMap Prm.vals).map .v) 60),(1,.row 4 3 ((exS.flatMap Syn.vals).map .v) 55)] 27 rfl rfl
    ⟨.inr ⟨6,_,rfl,rfl,(oren_fix (S:=fun _=>False) (fun i hi=>hi.elim) (o := .row 2 2 (([⟨1,0⟩,⟨1,1⟩]:List Evt).flatMap Evt.cells) 62) (scs_evts _ _)).symm,rfl⟩,.inr ⟨8,_,rfl,rfl,(oren_fix (S:=fun _=>False) (fun i hi=>hi.elim) (o := .row 4 3 (([⟨-1,0,5,1⟩,⟨-2,1,5,1⟩,⟨0,1,1,1⟩]:List Syn).flatMap Syn.cells) 55) (scs_syns _ _)).symm,rfl⟩,.inl ⟨rfl,fun i hi=>by cases hi⟩,.inl ⟨rfl,fun i hi=>by cases hi⟩,.inl ⟨rfl,fun i hi=>by cases hi⟩,.inl ⟨rfl,fun i hi=>by cases hi⟩,.inl ⟨rfl,fun i hi=>by cases hi⟩,trivial⟩ ?_
   refine Run.drawQ (hc [] none (fun _ h=>by cases h)) [8,9,10,11,13,14,15] [] [] hl2 ?_
   conv=>whnf
   refine ⟨by kernel_rfl,fun l3 hl3 => ?_,.inl rfl⟩
   obtain rfl:=hl3.nil
   exact Run.trim (T':=[(0,.v (.bool false)),(1,.ptr 2 0),(2,.ptr 3 0),(8,.opq 24),(9,.ptr 18 0),(10,ii 0)]) (M':=[(24,.row 2 2 (([⟨1,0⟩,⟨1,1⟩]:List Evt).flatMap Evt.cells) 62),(26,.row 4 3 (([⟨-1,0,5,1⟩,⟨-2,1,5,1⟩,⟨0,1,1,1⟩]:List Syn).flatMap Syn.cells) 55),(18,.cells [.opq 25,ii 2,.opq 26] 25),(2,.cells [.opq 0,ii 2,.opq 1] 25),(3,.cells (exRul.vals.map .v) 36),(0,.row 8 2 (([exPrm,exPrm].flatMap Prm.vals).map .v) 60),(1,.row 4 3 ((exS.flatMap Syn.vals).map .v) 55)]) 48 ⟨⟨rfl,trivial⟩,⟨rfl,(show 2<48 by decide)⟩,⟨rfl,(show 3<48 by decide)⟩,⟨rfl,(show 24<48 by decide)⟩,⟨rfl,(show 18<48 by decide)⟩,⟨rfl,trivial⟩,trivial⟩ ⟨⟨rfl,by omega,scs_evts _ _⟩,⟨rfl,by omega,scs_syns _ _⟩,⟨rfl,by omega,by simp [SObj.sc,SV.scs,SV.sc]⟩,⟨rfl,by omega,by simp [SObj.sc,SV.scs,SV.sc]⟩,⟨rfl,by omega,scs_v _ _⟩,⟨rfl,by omega,scs_v _ _⟩,⟨rfl,by omega,scs_v _ _⟩,trivial⟩ (fun p hp=>by cases hp) tail

 refine Run.of_wpK (hc [] none (fun _ h=>by cases h)) 1000 _ ?_
 conv=>whnf
 refine Run.callE (g:=22) (vs:=[.opq 24,.slc 48 0 2 2]) (caps:=[]) (.v (.bool true)) (fun ρ w1 hW=>by
  have h1:=hW.rowsAtR (i:=24) rfl (by decide)
  rw [evts_v,concs_v] at h1
  have h2:=hW.rowsAtS (i:=48) (e:=2) (n:=2) (cap:=2) rfl rfl (by decide)
  have:=same_run _ _ [⟨1,0⟩,⟨1,1⟩] [⟨1,0⟩,⟨1,1⟩] w1 h1 h2 (by decide)
  exact this) (ent _ _ Try.func22 (by kernel_rfl) rfl) rfl rfl rfl rfl rfl rfl rfl trivial ?_
 refine Run.of_wpK (hc [] none (fun _ h=>by cases h)) 1000 _ ?_
 conv=>whnf
 refine ⟨by decide,?_⟩
 conv=>whnf
 refine Run.callE (g:=35) (vs:=[.agg [.opq 0,ii 2,.opq 1],.agg (exQ.vals.map .v),.slc 50 0 1 1,.v (.slice none 0 0),.slc 51 0 1 1]) (caps:=[]) (.v (.bool true)) (fun ρ w1 hW=>by
  have h1:=hW.rowsAtR (i:=0) rfl (by decide)
  rw [concs_v] at h1
  have h2:=hW.rowsAtR (i:=1) rfl (by decide)
  rw [concs_v] at h2
  have h4:=hW.rowsAtS (i:=51) (e:=1) (n:=1) (cap:=1) rfl rfl (by decide)
  have hz : ∀ e,RowsAt w1 (.slice none 0 0) e 0 []:=fun e=>⟨by simp,none,0,rfl,Nat.le_refl _,.inl rfl⟩
  have h3:=hW.rowsAtS (i:=50) (e:=3) (n:=1) (cap:=1) rfl rfl (by decide)
  have:=trained_run _ _ exNet exQ _ [⟨3,0,16⟩] _ [] _ [4] w1 ⟨h1,h2⟩ h3 (hz 1) h4 (by decide) rfl k_chkQ ex_prep k_pz.1
  rw [k_t1] at this
  exact this) (ent _ _ Try.func35 (by kernel_rfl) rfl) rfl rfl rfl rfl rfl rfl rfl trivial ?_
 refine Run.of_wpK (hc [] none (fun _ h=>by cases h)) 1000 _ ?_
 conv=>whnf
 refine Run.callE (g:=35) (vs:=[.agg [.opq 0,ii 2,.opq 1],.agg (exQ.vals.map .v),.slc 52 0 1 1,.v (.slice none 0 0),.slc 53 0 1 1]) (caps:=[]) (.v (.bool true)) (fun ρ w1 hW=>by
  have h1:=hW.rowsAtR (i:=0) rfl (by decide)
  rw [concs_v] at h1
  have h2:=hW.rowsAtR (i:=1) rfl (by decide)
  rw [concs_v] at h2
  have h4:=hW.rowsAtS (i:=53) (e:=1) (n:=1) (cap:=1) rfl rfl (by decide)
  have hz : ∀ e,RowsAt w1 (.slice none 0 0) e 0 []:=fun e=>⟨by simp,none,0,rfl,Nat.le_refl _,.inl rfl⟩
  have h3:=hW.rowsAtS (i:=52) (e:=3) (n:=1) (cap:=1) rfl rfl (by decide)
  have:=trained_run _ _ exNet exQ _ [⟨4,0,16⟩] _ [] _ [3] w1 ⟨h1,h2⟩ h3 (hz 1) h4 (by decide) rfl k_chkQ ex_prep k_pz.2.1
  rw [k_t2] at this
  exact this) (ent _ _ Try.func35 (by kernel_rfl) rfl) rfl rfl rfl rfl rfl rfl rfl trivial ?_
 refine Run.of_wpK (hc [] none (fun _ h=>by cases h)) 1000 _ ?_
 conv=>whnf
 refine Run.callE (g:=35) (vs:=[.agg [.opq 0,ii 2,.opq 1],.agg (exQ.vals.map .v),.slc 54 0 1 1,.v (.slice none 0 0),.slc 55 0 1 1]) (caps:=[]) (.v (.bool true)) (fun ρ w1 hW=>by
  have h1:=hW.rowsAtR (i:=0) rfl (by decide)
  rw [concs_v] at h1
  have h2:=hW.rowsAtR (i:=1) rfl (by decide)
  rw [concs_v] at h2
  have h4:=hW.rowsAtS (i:=55) (e:=1) (n:=1) (cap:=1) rfl rfl (by decide)
  have hz : ∀ e,RowsAt w1 (.slice none 0 0) e 0 []:=fun e=>⟨by simp,none,0,rfl,Nat.le_refl _,.inl rfl⟩
  have h3:=hW.rowsAtS (i:=54) (e:=3) (n:=1) (cap:=1) rfl rfl (by decide)
  have:=trained_run _ _ exNet exQ _ [⟨4,0,-16⟩] _ [] _ [1] w1 ⟨h1,h2⟩ h3 (hz 1) h4 (by decide) rfl k_chkQ ex_prep k_pz.2.2
  rw [k_t3] at this
  exact this) (ent _ _ Try.func35 (by kernel_rfl) rfl) rfl rfl rfl rfl rfl rfl rfl trivial ?_
 refine Run.of_wpK (hc [] none (fun _ h=>by cases h)) 1000 _ ?_
 conv=>whnf
 refine Run.callE (g:=35) (vs:=[.agg [.opq 0,ii 2,.opq 1],.agg (exQ.vals.map .v),.v (.slice none 0 0),.v (.slice none 0 0),.slc 56 0 1 1]) (caps:=[]) (.v (.bool true)) (fun ρ w1 hW=>by
  have h1:=hW.rowsAtR (i:=0) rfl (by decide)
  rw [concs_v] at h1
  have h2:=hW.rowsAtR (i:=1) rfl (by decide)
  rw [concs_v] at h2
  have h4:=hW.rowsAtS (i:=56) (e:=1) (n:=1) (cap:=1) rfl rfl (by decide)
  have hz : ∀ e,RowsAt w1 (.slice none 0 0) e 0 []:=fun e=>⟨by simp,none,0,rfl,Nat.le_refl _,.inl rfl⟩
  have:=trained_run _ _ exNet exQ _ [] _ [] _ [2] w1 ⟨h1,h2⟩ (hz 3) (hz 1) h4 (by decide) rfl k_chkQ ex_prep (by unfold pzsChk; rfl)
  rw [k_t4] at this
  exact this) (ent _ _ Try.func35 (by kernel_rfl) rfl) rfl rfl rfl rfl rfl rfl rfl trivial ?_
 refine Run.of_wpK (hc [] none (fun _ h=>by cases h)) 1000 _ ?_
 conv=>whnf
 refine Run.trim (T':=[(0,.v (.bool false)),(1,.ptr 2 0),(2,.ptr 3 0)]) (M':=[(2,.cells [.opq 0,ii 2,.opq 1] 25),(3,.cells (exRul.vals.map .v) 36),(0,.row 8 2 (([exPrm,exPrm].flatMap Prm.vals).map .v) 60),(1,.row 4 3 ((exS.flatMap Syn.vals).map .v) 55)]) 4 ⟨⟨rfl,trivial⟩,⟨rfl,(show 2<4 by decide)⟩,⟨rfl,(show 3<4 by decide)⟩,trivial⟩ ⟨⟨rfl,by omega,by simp [SObj.sc,SV.scs,SV.sc]⟩,⟨rfl,by omega,scs_v _ _⟩,⟨rfl,by omega,scs_v _ _⟩,⟨rfl,by omega,scs_v _ _⟩,trivial⟩ (fun p hp=>by cases hp) ?_
 refine Run.draw (hc [] none (fun _ h=>by cases h)) 6 ?_
 conv=>whnf
 refine ⟨by kernel_rfl,?_⟩
 refine Run.of_wpK (hc [] none (fun _ h=>by cases h)) 1000 _ ?_
 conv=>whnf
 refine Run.trim (T':=[(0,.v (.bool false)),(1,.ptr 2 0),(2,.ptr 3 0),(12,.ptr 6 0),(13,.ptr 7 0),(126,.slc 10 0 0 0),(128,.opq 1)]) (M':=[(10,.cells [] 55),(6,.cells (exSm.vals.map .v) 36),(7,.cells [.opq 0,ii 2,.opq 1] 25),(2,.cells [.opq 0,ii 2,.opq 1] 25),(3,.cells (exRul.vals.map .v) 36),(0,.row 8 2 (([exPrm,exPrm].flatMap Prm.vals).map .v) 60),(1,.row 4 3 ((exS.flatMap Syn.vals).map .v) 55)]) 11 ⟨⟨rfl,trivial⟩,⟨rfl,(show 2<11 by decide)⟩,⟨rfl,(show 3<11 by decide)⟩,⟨rfl,(show 6<11 by decide)⟩,⟨rfl,(show 7<11 by decide)⟩,⟨rfl,(show 10<11 by decide)⟩,⟨rfl,(show 1<11 by decide)⟩,trivial⟩ ⟨⟨rfl,by omega,trivial⟩,⟨rfl,by omega,scs_v _ _⟩,⟨rfl,by omega,by simp [SObj.sc,SV.scs,SV.sc]⟩,⟨rfl,by omega,by simp [SObj.sc,SV.scs,SV.sc]⟩,⟨rfl,by omega,scs_v _ _⟩,⟨rfl,by omega,scs_v _ _⟩,⟨rfl,by omega,scs_v _ _⟩,trivial⟩ (fun p hp=>by cases hp) ?_
 refine Run.appendC (hc [] none (fun _ h=>by cases h)) (j:=10) (e:=4) (te:=55) rfl rfl rfl rfl rfl rfl rfl (fun ρ w1 hW=>by
  have h1:=hW.rowsAtR (i:=1) rfl (by decide)
  rw [concs_v] at h1
  exact h1) (by decide) rfl rfl rfl rfl (by decide) ⟨by decide,by decide⟩ [(6,.cells (exSm.vals.map .v) 36),(7,.cells [.opq 0,ii 2,.opq 1] 25),(2,.cells [.opq 0,ii 2,.opq 1] 25),(3,.cells (exRul.vals.map .v) 36),(0,.row 8 2 (([exPrm,exPrm].flatMap Prm.vals).map .v) 60),(1,.row 4 3 ((exS.flatMap Syn.vals).map .v) 55)] ⟨⟨rfl,(show 6≠10 by decide)⟩,⟨rfl,(show 7≠10 by decide)⟩,⟨rfl,(show 2≠10 by decide)⟩,⟨rfl,(show 3≠10 by decide)⟩,⟨rfl,(show 0≠10 by decide)⟩,⟨rfl,(show 1≠10 by decide)⟩,trivial⟩ ?_
 refine Run.of_wpK (hc [] none (fun _ h=>by cases h)) 1000 _ ?_
 conv=>whnf
 refine Run.append (hc [] none (fun _ h=>by cases h)) rfl rfl rfl rfl rfl rfl rfl rfl rfl rfl rfl rfl rfl rfl rfl (by decide) ⟨by decide,by decide⟩ [(6,.cells (exSm.vals.map .v) 36),(7,.cells [.opq 0,ii 2,.opq 1] 25),(2,.cells [.opq 0,ii 2,.opq 1] 25),(3,.cells (exRul.vals.map .v) 36),(0,.row 8 2 (([exPrm,exPrm].flatMap Prm.vals).map .v) 60),(1,.row 4 3 ((exS.flatMap Syn.vals).map .v) 55)] (AllP.mem ⟨⟨rfl,(show 6≠11 by decide)⟩,⟨rfl,(show 7≠11 by decide)⟩,⟨rfl,(show 2≠11 by decide)⟩,⟨rfl,(show 3≠11 by decide)⟩,⟨rfl,(show 0≠11 by decide)⟩,⟨rfl,(show 1≠11 by decide)⟩,trivial⟩) ?_
 refine Run.trim (T':=[(0,.v (.bool false)),(1,.ptr 2 0),(2,.ptr 3 0),(12,.ptr 6 0),(13,.ptr 7 0),(132,.opq 13)]) (M':=[(13,.row 4 4 ((exMore.S.flatMap Syn.vals).map .v) 55),(6,.cells (exSm.vals.map .v) 36),(7,.cells [.opq 0,ii 2,.opq 1] 25),(2,.cells [.opq 0,ii 2,.opq 1] 25),(3,.cells (exRul.vals.map .v) 36),(0,.row 8 2 (([exPrm,exPrm].flatMap Prm.vals).map .v) 60),(1,.row 4 3 ((exS.flatMap Syn.vals).map .v) 55)]) 14 ⟨⟨rfl,trivial⟩,⟨rfl,(show 2<14 by decide)⟩,⟨rfl,(show 3<14 by decide)⟩,⟨rfl,(show 6<14 by decide)⟩,⟨rfl,(show 7<14 by decide)⟩,⟨rfl,(show 13<14 by decide)⟩,trivial⟩ ⟨⟨rfl,by omega,scs_v _ _⟩,⟨rfl,by omega,scs_v _ _⟩,⟨rfl,by omega,by simp [SObj.sc,SV.scs,SV.sc]⟩,⟨rfl,by omega,by simp [SObj.sc,SV.scs,SV.sc]⟩,⟨rfl,by omega,scs_v _ _⟩,⟨rfl,by omega,scs_v _ _⟩,⟨rfl,by omega,scs_v _ _⟩,trivial⟩ (fun p hp=>by cases hp) ?_
 refine Run.of_wpK (hc [] none (fun _ h=>by cases h)) 1000 _ ?_
 conv=>whnf
 refine Run.callE (g:=35) (vs:=[.agg [.opq 0,ii 2,.opq 13],.agg (exSm.vals.map .v),.v (.slice none 0 0),.slc 14 0 1 1,.slc 15 0 2 2]) (caps:=[]) (.v (.bool true)) (fun ρ w1 hW=>by
  have h1:=hW.rowsAtR (i:=0) rfl (by decide)
  rw [concs_v] at h1
  have h2:=hW.rowsAtR (i:=13) rfl (by decide)
  rw [concs_v] at h2
  have h4:=hW.rowsAtS (i:=15) (e:=1) (n:=2) (cap:=2) rfl rfl (by decide)
  have hz : ∀ e,RowsAt w1 (.slice none 0 0) e 0 []:=fun e=>⟨by simp,none,0,rfl,Nat.le_refl _,.inl rfl⟩
  have h5:=hW.rowsAtS (i:=14) (e:=1) (n:=1) (cap:=1) rfl rfl (by decide)
  have:=trained_run _ _ exMore exSm _ [] _ [0] _ [3,2] w1 ⟨h1,h2⟩ (hz 3) h5 h4 (by decide) rfl k_chkS ex_prep (by unfold pzsChk; rfl)
  rw [k_t5] at this
  exact this) (ent _ _ Try.func35 (by kernel_rfl) rfl) rfl rfl rfl rfl rfl rfl rfl trivial ?_
 refine Run.of_wpK (hc [] none (fun _ h=>by cases h)) 1000 _ ?_
 conv=>whnf
 refine Run.trim (T':=[(0,.v (.bool false)),(1,.ptr 2 0),(2,.ptr 3 0)]) (M':=[(2,.cells [.opq 0,ii 2,.opq 1] 25),(3,.cells (exRul.vals.map .v) 36),(0,.row 8 2 (([exPrm,exPrm].flatMap Prm.vals).map .v) 60),(1,.row 4 3 ((exS.flatMap Syn.vals).map .v) 55)]) 4 ⟨⟨rfl,trivial⟩,⟨rfl,(show 2<4 by decide)⟩,⟨rfl,(show 3<4 by decide)⟩,trivial⟩ ⟨⟨rfl,by omega,by simp [SObj.sc,SV.scs,SV.sc]⟩,⟨rfl,by omega,scs_v _ _⟩,⟨rfl,by omega,scs_v _ _⟩,⟨rfl,by omega,scs_v _ _⟩,trivial⟩ (fun p hp=>by cases hp) ?_
 refine Run.draw (hc [] none (fun _ h=>by cases h)) 9 ?_
 conv=>whnf
 refine ⟨by kernel_rfl,?_⟩
 refine Run.of_wpK (hc [] none (fun _ h=>by cases h)) 1000 _ ?_
 conv=>whnf
 refine Run.trim (T':=[(0,.v (.bool false)),(1,.ptr 2 0),(2,.ptr 3 0),(14,.ptr 7 0),(15,.ptr 8 0),(16,.ptr 9 0),(143,.slc 13 0 0 0),(145,.opq 1)]) (M':=[(13,.cells [] 55),(7,.cells [.opq 0,ii 2,.opq 1] 25),(8,.cells (exRul.vals.map .v) 36),(9,.cells (exRul.vals.map .v) 36),(2,.cells [.opq 0,ii 2,.opq 1] 25),(3,.cells (exRul.vals.map .v) 36),(0,.row 8 2 (([exPrm,exPrm].flatMap Prm.vals).map .v) 60),(1,.row 4 3 ((exS.flatMap Syn.vals).map .v) 55)]) 14 ⟨⟨rfl,trivial⟩,⟨rfl,(show 2<14 by decide)⟩,⟨rfl,(show 3<14 by decide)⟩,⟨rfl,(show 7<14 by decide)⟩,⟨rfl,(show 8<14 by decide)⟩,⟨rfl,(show 9<14 by decide)⟩,⟨rfl,(show 13<14 by decide)⟩,⟨rfl,(show 1<14 by decide)⟩,trivial⟩ ⟨⟨rfl,by omega,trivial⟩,⟨rfl,by omega,by simp [SObj.sc,SV.scs,SV.sc]⟩,⟨rfl,by omega,scs_v _ _⟩,⟨rfl,by omega,scs_v _ _⟩,⟨rfl,by omega,by simp [SObj.sc,SV.scs,SV.sc]⟩,⟨rfl,by omega,scs_v _ _⟩,⟨rfl,by omega,scs_v _ _⟩,⟨rfl,by omega,scs_v _ _⟩,trivial⟩ (fun p hp=>by cases hp) ?_
 refine Run.appendC (hc [] none (fun _ h=>by cases h)) (j:=13) (e:=4) (te:=55) rfl rfl rfl rfl rfl rfl rfl (fun ρ w1 hW=>by
  have h1:=hW.rowsAtR (i:=1) rfl (by decide)
  rw [concs_v] at h1
  exact h1) (by decide) rfl rfl rfl rfl (by decide) ⟨by decide,by decide⟩ [(7,.cells [.opq 0,ii 2,.opq 1] 25),(8,.cells (exRul.vals.map .v) 36),(9,.cells (exRul.vals.map .v) 36),(2,.cells [.opq 0,ii 2,.opq 1] 25),(3,.cells (exRul.vals.map .v) 36),(0,.row 8 2 (([exPrm,exPrm].flatMap Prm.vals).map .v) 60),(1,.row 4 3 ((exS.flatMap Syn.vals).map .v) 55)] ⟨⟨rfl,(show 7≠13 by decide)⟩,⟨rfl,(show 8≠13 by decide)⟩,⟨rfl,(show 9≠13 by decide)⟩,⟨rfl,(show 2≠13 by decide)⟩,⟨rfl,(show 3≠13 by decide)⟩,⟨rfl,(show 0≠13 by decide)⟩,⟨rfl,(show 1≠13 by decide)⟩,trivial⟩ ?_
 refine Run.of_wpK (hc [] none (fun _ h=>by cases h)) 1000 _ ?_
 conv=>whnf
 refine ⟨by decide,?_⟩
 conv=>whnf
 refine Run.callE (g:=27) (vs:=[.v (.pointer none),.v (.slice none 0 0),.v (.slice none 0 0)]) (caps:=[]) (.tup [.v (.slice none 0 0),ii 1]) (fun ρ w1 hW=>Step_nil w1) (ent _ _ Try.func27 (by kernel_rfl) rfl) rfl rfl rfl rfl rfl rfl rfl ⟨trivial,trivial,trivial⟩ ?_
 refine Run.of_wpK (hc [] none (fun _ h=>by cases h)) 1000 _ ?_
 conv=>whnf
 refine Run.trim (T':=[(0,.v (.bool false)),(1,.ptr 2 0),(2,.ptr 3 0),(10,ii 1),(14,.ptr 7 0),(15,.ptr 8 0),(16,.ptr 9 0),(17,.v (.pointer none)),(161,.ptr 15 0)]) (M':=[(15,.cells (emptyC++emR) 96),(14,.row 4 3 ((exHv.S.flatMap Syn.vals).map .v) 55),(7,.cells [.opq 0,ii 2,.opq 14] 25),(8,.cells (exKp.vals.map .v) 36),(9,.cells (exFd.vals.map .v) 36),(2,.cells [.opq 0,ii 2,.opq 1] 25),(3,.cells (exRul.vals.map .v) 36),(0,.row 8 2 (([exPrm,exPrm].flatMap Prm.vals).map .v) 60),(1,.row 4 3 ((exS.flatMap Syn.vals).map .v) 55)]) 16 ⟨⟨rfl,trivial⟩,⟨rfl,(show 2<16 by decide)⟩,⟨rfl,(show 3<16 by decide)⟩,⟨rfl,trivial⟩,⟨rfl,(show 7<16 by decide)⟩,⟨rfl,(show 8<16 by decide)⟩,⟨rfl,(show 9<16 by decide)⟩,⟨rfl,trivial⟩,⟨rfl,(show 15<16 by decide)⟩,trivial⟩ ⟨⟨rfl,by omega,⟨trivial,trivial,trivial,trivial,trivial,emR_sc _⟩⟩,⟨rfl,by omega,scs_v _ _⟩,⟨rfl,by omega,by simp [SObj.sc,SV.scs,SV.sc]⟩,⟨rfl,by omega,scs_v _ _⟩,⟨rfl,by omega,scs_v _ _⟩,⟨rfl,by omega,by simp [SObj.sc,SV.scs,SV.sc]⟩,⟨rfl,by omega,scs_v _ _⟩,⟨rfl,by omega,scs_v _ _⟩,⟨rfl,by omega,scs_v _ _⟩,trivial⟩ (fun p hp=>by cases hp) ?_
 refine Run.callR (vs:=[.ptr 0 0,ii 0]) (caps:=[]) (caps2:=[]) (Mark_empty emR (emR_sc _)) (ent _ _ Try.func36 (by kernel_rfl) rfl) rfl rfl rfl rfl rfl rfl [.ptr 15 0,ii 0] rfl (fun q=>15+q) rfl (fun q hq=>by show 15+q<16; omega) (fun q hq j hj hne=>by show 15+q≠15+j; omega) (by decide)
  ⟨⟨by omega,⟨trivial,trivial,trivial,trivial,trivial,emR_sc _⟩,⟨_,rfl,Conv.refl _⟩,.inr (by simp),fun h=>by cases h⟩,trivial⟩ (fun q hq=>by simp at hq; subst hq; exact ⟨by omega,_,rfl⟩) (.tup [.agg [ii 0,ii 0,ii 0,ii 0],ii 1]) [(15,.cells (emptyC++emR) 96),(14,.row 4 3 ((exHv.S.flatMap Syn.vals).map .v) 55),(7,.cells [.opq 0,ii 2,.opq 14] 25),(8,.cells (exKp.vals.map .v) 36),(9,.cells (exFd.vals.map .v) 36),(2,.cells [.opq 0,ii 2,.opq 1] 25),(3,.cells (exRul.vals.map .v) 36),(0,.row 8 2 (([exPrm,exPrm].flatMap Prm.vals).map .v) 60),(1,.row 4 3 ((exS.flatMap Syn.vals).map .v) 55)] 16 rfl rfl
  ⟨.inr ⟨0,_,rfl,rfl,rfl,rfl⟩,.inl ⟨rfl,fun q hq=>by simp at hq; subst hq; exact (show 15≠14 by decide)⟩,.inl ⟨rfl,fun q hq=>by simp at hq; subst hq; exact (show 15≠7 by decide)⟩,.inl ⟨rfl,fun q hq=>by simp at hq; subst hq; exact (show 15≠8 by decide)⟩,.inl ⟨rfl,fun q hq=>by simp at hq; subst hq; exact (show 15≠9 by decide)⟩,.inl ⟨rfl,fun q hq=>by simp at hq; subst hq; exact (show 15≠2 by decide)⟩,.inl ⟨rfl,fun q hq=>by simp at hq; subst hq; exact (show 15≠3 by decide)⟩,.inl ⟨rfl,fun q hq=>by simp at hq; subst hq; exact (show 15≠0 by decide)⟩,.inl ⟨rfl,fun q hq=>by simp at hq; subst hq; exact (show 15≠1 by decide)⟩,trivial⟩ ?_
 refine Run.of_wpK (hc [] none (fun _ h=>by cases h)) 1000 _ ?_
 conv=>whnf
 refine Run.trim (T':=[(0,.v (.bool false)),(1,.ptr 2 0),(2,.ptr 3 0),(10,ii 1),(14,.ptr 7 0),(15,.ptr 8 0),(16,.ptr 9 0),(17,.v (.pointer none)),(19,ii 1)]) (M':=[(14,.row 4 3 ((exHv.S.flatMap Syn.vals).map .v) 55),(7,.cells [.opq 0,ii 2,.opq 14] 25),(8,.cells (exKp.vals.map .v) 36),(9,.cells (exFd.vals.map .v) 36),(2,.cells [.opq 0,ii 2,.opq 1] 25),(3,.cells (exRul.vals.map .v) 36),(0,.row 8 2 (([exPrm,exPrm].flatMap Prm.vals).map .v) 60),(1,.row 4 3 ((exS.flatMap Syn.vals).map .v) 55)]) 15 ⟨⟨rfl,trivial⟩,⟨rfl,(show 2<15 by decide)⟩,⟨rfl,(show 3<15 by decide)⟩,⟨rfl,trivial⟩,⟨rfl,(show 7<15 by decide)⟩,⟨rfl,(show 8<15 by decide)⟩,⟨rfl,(show 9<15 by decide)⟩,⟨rfl,trivial⟩,⟨rfl,trivial⟩,trivial⟩ ⟨⟨rfl,by omega,scs_v _ _⟩,⟨rfl,by omega,by simp [SObj.sc,SV.scs,SV.sc]⟩,⟨rfl,by omega,scs_v _ _⟩,⟨rfl,by omega,scs_v _ _⟩,⟨rfl,by omega,by simp [SObj.sc,SV.scs,SV.sc]⟩,⟨rfl,by omega,scs_v _ _⟩,⟨rfl,by omega,scs_v _ _⟩,⟨rfl,by omega,scs_v _ _⟩,trivial⟩ (fun p hp=>by cases hp) ?_
 refine Run.draw (hc [] none (fun _ h=>by cases h)) 51 ?_
 rw [show upto 0 51=upto 0 5++(upto 5 7++(upto 12 8++(upto 20 8++upto 28 23))) from rfl]
 simp only [drawK_app]
 conv=>whnf
 rw [opF_callG (F:=CK) rfl rfl rfl rfl (by rw [← hCK]; exact FCk_at [exPrm,exPrm] 2 exHv.S [exRul] [-1,-1,0] k_ck.1 rfl rfl rfl rfl)]
 conv=>whnf
 rw [opF_callG (F:=CK) rfl rfl rfl rfl (by rw [← hCK]; exact FCk_at [exPrm,exPrm] 2 exS [exKp] [-1,-1,0] k_ck.2.1 rfl rfl rfl rfl)]
 conv=>whnf
 rw [opF_callG (F:=CK) rfl rfl rfl rfl (by rw [← hCK]; exact FCk_at [exPrm,exPrm] 2 exS [exFd] [-1,-1,0] k_ck.2.2.1 rfl rfl rfl rfl)]
 conv=>whnf
 rw [opF_callG (F:=CK) rfl rfl rfl rfl (by rw [← hCK]; exact FCk_at [exPrm,exPrm] 2 exS [exRul] [-1,-1,1] k_ck.2.2.2 rfl rfl rfl rfl)]
 conv=>whnf
 refine ⟨by kernel_rfl,?_⟩
 refine Run.of_wpK (hc [] none (fun _ h=>by cases h)) 1000 _ ?_
 conv=>whnf
 exact ⟨fun ρ w' hW _=>⟨rfl,hW.toExt⟩⟩
end Go.Proofs.Ytnnlpdgnlccbjaa
