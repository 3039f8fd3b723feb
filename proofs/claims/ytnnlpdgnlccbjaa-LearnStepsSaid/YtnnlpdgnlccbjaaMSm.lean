/-
  Laws of the small executor, and walks of the functions that the statement reaches (part 13 of several, put together out of smaller texts).
  The conditions stand with each law.
-/
import Derived.SizedLaws
import Derived.Test.YtnnlpdgnlccbjaaMSl
namespace Go.Proofs.Ytnnlpdgnlccbjaa
open Go.Sx
open Go.ChangeShapes Go.WideShapes Go.ChangeAt Go.RowKit Go.Deep Go.Joins
set_option maxRecDepth 100000
section
variable {H:Type} {enc:TypeId×Value→H} {W:World} {base b0:Nat} {spare:Nat→Bool} {held:Bool} {r:Reach} {v:Value} {d:DataW H} {pl:List MemPlace}
end
end Go.Proofs.Ytnnlpdgnlccbjaa
namespace Go.Proofs.Ytnnlpdgnlccbjaa
open Go.ChangeShapes Go.WideShapes Go.ChangeAt Go.RowKit Go.Sx
set_option maxRecDepth 100000
structure ActV where
 what:Int
 vi:Value
 vr:Value
 ins:List Int
 rws:List Int
def ActV.vals (a:ActV):List Value:=[.int .u8 a.what,a.vi,a.vr]
theorem ActV.vlen (a:ActV):a.vals.length=3:=rfl
def ActV.ok (w:World)(a:ActV):Prop:=RowsAt w a.vi 1 a.ins.length (qB a.ins)∧RowsAt w a.vr 1 a.rws.length (qB a.rws)
section
variable {H:Type} {enc:TypeId×Value→H} {W:World} {base b0:Nat} {spare:Nat→Bool} {held:Bool} {r:Reach} {v:Value} {d:DataW H} {pl:List MemPlace}
theorem el_act {n:Nat}{cs:List Value}{y:DataW H×List MemPlace}(h:DataW.trod enc Try.prog W base spare held n 104 cs=some y) :∃a:{a:ActV // a.ok W},cs=a.1.vals:=by
 obtain⟨xs,m,_,hx,hlen,hxl,hg⟩:=DataW.trod_struct Try.underlying104 h
 have hC:Try.prog.cellsOf 104=3:=by kernel_rfl
 rw[hC]at hlen
 clear hx
 match cs,hlen with
 | [c0,c1,c2],_=>
  match xs,hxl with
  | [y0,y1,y2],_=>
   have h1:Try.prog.cellsOf 5=1:=by kernel_rfl
   have h2:Try.prog.cellsOf 27=1:=by kernel_rfl
   have g0:DataW.trod enc Try.prog W base spare held m 5 [c0]=some y0:=by simpa[h1]using hg 0 _ rfl
   have g1:DataW.trod enc Try.prog W base spare held m 27 [c1]=some y1:=by simpa[h2]using hg 1 _ rfl
   have g2:DataW.trod enc Try.prog W base spare held m 27 [c2]=some y2:=by simpa[h2]using hg 2 _ rfl
   obtain⟨n0,e0,_,w0⟩:=DataW.trod_int Try.underlying5 g0
   obtain⟨v1,l1,e1,r1,_⟩:=sQ g1
   obtain⟨v2,l2,e2,r2,_⟩:=sQ g2
   simp only[List.cons.injEq,and_true]at e0 e1 e2
   subst e0 e1 e2
   exact⟨⟨⟨n0,c1,c2,l1,l2⟩,r1,r2⟩,rfl⟩
theorem open_rows_act (hv:Value.okWide Try.prog W r b0 99 v)(h:DataW.Trod enc Try.prog W base spare held 99 v d pl) :∃l:List ActV,RowsAt W v 3 l.length (l.flatMap ActV.vals) ∧ ∀a∈l,a.ok W:=by
 obtain⟨a0,len,cap,rfl⟩:=okWide_slice Try.underlying99 hv
 obtain⟨fuel,hf⟩:=h
 obtain⟨v,l,h1,h2,_⟩:=tL (fun a:{a:ActV // a.ok W}=>a.1.vals) (fun a=>a.1.vlen) (by decide) Try.underlying99 (by kernel_rfl) el_act hf
 simp[Value.cells]at h1
 subst h1
 refine⟨l.map (·.1),?_,fun a ha=> ?_⟩
 ·rw[List.length_map,List.flatMap_map];exact h2
 ·obtain⟨b,_,rfl⟩:=List.mem_map.1 ha;exact b.2
end
end Go.Proofs.Ytnnlpdgnlccbjaa
namespace Go.Proofs.Ytnnlpdgnlccbjaa
open Go.Sx
set_option maxRecDepth 100000
set_option maxHeartbeats 8000000
def act0:ActV:=⟨0,.slice none 0 0,.slice none 0 0,[],[]⟩
def isCopy (a:ActV):Bool:=a.what.tmod 10==9
def actS (x:Lnt)(a:ActV)(p:Lst×(Nat→List Int)):Lst×(Nat→List Int):=
 if isCopy a=true then p else if jX x p.1 a.ins a.rws=0 then(lN x p.1 a.ins (j9 x.rs.length a.rws),snN p.2 a.ins (zQ x p.1))else p
def stS (x:Lnt)(acts:List ActV):Nat→Lst×(Nat→List Int)
 | 0=>(x.new,fun _=>[])
 |i+1=>actS x (acts.getD i act0) (stS x acts i)
structure AOK (x:Lnt) (p:Lst×(Nat→List Int)):Prop where
 inv:LInv x p.1
 sn:SnOK p.1 p.2
 tk:p.1.tick≤10000
theorem AOK.start {x:Lnt}(hx:NetOK x):AOK x (x.new,fun _=>[]):=⟨LInv.start hx,SnOK.start x,by show(0:Int)≤10000;decide⟩
theorem AOK.next {x:Lnt}(hx:NetOK x){a:ActV}{p:Lst×(Nat→List Int)}(h:AOK x p)(hl:a.ins.length≤300):AOK x (actS x a p):=by
 unfold actS
 split
 ·exact h
 split
 ·rename_i h1 h2
  obtain⟨ht,_,hr⟩:=wS h2
  refine⟨h.inv.next hx (by omega) _ _,(rgo_spec hx h.inv h.sn (by omega) a.ins _ (by omega) (sF hr)).2,?_⟩
  show W (p.1.tick+1)≤10000
  have:=h.inv.t0
  rw[zL (by omega) (by omega)];omega
 ·exact h
def InS (S:Nat→Prop)(M:List (Nat×SObj)):Prop:=AllP (fun x=>S x.1∧x.2.sc S) M
def lnS (x:Lnt)(s:Lst):List (Nat×SObj):=((6,.cells [ii s.tick,.opq 7,ii x.n.inp,.opq 8,.opq 9,.mp 14,.mp 15,.mp 16,.mp 17,.mp 18,.mp 19,.mp 20,.mp 21,.mp 22,.mp 23,.mp 24,.mp 25,.mp 26,.mp 27,.mp 28,.mp 29,.opq 10,.opq 11,.opq 12,.mp 13] 96)::[])
def lnM (s:Lst):List (Nat×SObj):=((14,.kmap false false (qA (s.sm 0)))::(15,.kmap false false (qA (s.sm 1)))::(16,.kmap false false (qA (s.sm 2)))::(17,.kmap false false (qA (s.sm 3)))::(18,.kmap false false (qA (s.sm 4)))::(19,.kmap false false (qA (s.sm 5)))::(20,.kmap false false (qA (s.sm 6)))::(21,.kmap false false (qA (s.sm 7)))::(22,.kmap false false (qA (s.sm 8)))::(23,.kmap false false (qA (s.sm 9)))::(24,.kmap false false (qA (s.sm 10)))::(25,.kmap false false (qA (s.sm 11)))::(26,.kmap false false (qA (s.sm 12)))::(27,.kmap false false (qA (s.sm 13)))::(28,.kmap false false (qA (s.sm 14)))::(29,.kmap false false (qA (s.sm 15)))::[])
def lnT (x:Lnt)(s:Lst):List (Nat×SObj):=((9,.row 2 x.n.N.length (s.st.flatMap Ste.cells) 139)::(12,.row 4 x.pl.length (s.m.flatMap Mrk.cells) 84)::[])
def lnC (x:Lnt):List (Nat×SObj):=((7,.row 8 x.n.N.length ((x.n.N.flatMap Prm.vals).map .v) 60)::(8,.row 4 x.n.S.length ((x.n.S.flatMap Syn.vals).map .v) 55)::(10,.row 10 x.rs.length ((x.rs.flatMap Rul.vals).map .v) 36)::(11,.row 1 x.pl.length ((qB x.pl).map .v) 3)::(13,.kmap true true x.tot)::[])
def rfH (x:Lnt)(s:Lst):List (Nat×SObj):=((40,.cells [.opq 0,ii x.n.inp,.opq 1,.opq 32,.opq 3,.opq 41,.opq 42,ii s.tick,.opq 43,.opq 44] 108)::(44,.row 1 16 [.opq 45,.opq 46,.opq 47,.opq 48,.opq 49,.opq 50,.opq 51,.opq 52,.opq 53,.opq 54,.opq 55,.opq 56,.opq 57,.opq 58,.opq 59,.opq 60] 27)::[])
def rfS (sn:Nat→List Int):List (Nat×SObj):=((45,.row 1 (sn 0).length ((sn 0).map fun x=>ii x) 3)::(46,.row 1 (sn 1).length ((sn 1).map fun x=>ii x) 3)::(47,.row 1 (sn 2).length ((sn 2).map fun x=>ii x) 3)::(48,.row 1 (sn 3).length ((sn 3).map fun x=>ii x) 3)::(49,.row 1 (sn 4).length ((sn 4).map fun x=>ii x) 3)::(50,.row 1 (sn 5).length ((sn 5).map fun x=>ii x) 3)::(51,.row 1 (sn 6).length ((sn 6).map fun x=>ii x) 3)::(52,.row 1 (sn 7).length ((sn 7).map fun x=>ii x) 3)::(53,.row 1 (sn 8).length ((sn 8).map fun x=>ii x) 3)::(54,.row 1 (sn 9).length ((sn 9).map fun x=>ii x) 3)::(55,.row 1 (sn 10).length ((sn 10).map fun x=>ii x) 3)::(56,.row 1 (sn 11).length ((sn 11).map fun x=>ii x) 3)::(57,.row 1 (sn 12).length ((sn 12).map fun x=>ii x) 3)::(58,.row 1 (sn 13).length ((sn 13).map fun x=>ii x) 3)::(59,.row 1 (sn 14).length ((sn 14).map fun x=>ii x) 3)::(60,.row 1 (sn 15).length ((sn 15).map fun x=>ii x) 3)::[])
def rfB (x:Lnt)(s:Lst):List (Nat×SObj):=((41,.row 4 x.n.S.length (s.m.flatMap Mrk.cells) 141)::(42,.row 1 x.rs.length (zT 61 x.rs.length) 27)::(43,.row 2 x.n.N.length (s.st.flatMap Ste.cells) 139)::[])
def rfC (x:Lnt):List (Nat×SObj):=((61,.row 1 (cN x.rs.length x.n.N.length 0) ((tt0 x 0).map fun x=>ii x) 3)::(62,.row 1 (cN x.rs.length x.n.N.length 1) ((tt0 x 1).map fun x=>ii x) 3)::(63,.row 1 (cN x.rs.length x.n.N.length 2) ((tt0 x 2).map fun x=>ii x) 3)::(64,.row 1 (cN x.rs.length x.n.N.length 3) ((tt0 x 3).map fun x=>ii x) 3)::(65,.row 1 (cN x.rs.length x.n.N.length 4) ((tt0 x 4).map fun x=>ii x) 3)::(66,.row 1 (cN x.rs.length x.n.N.length 5) ((tt0 x 5).map fun x=>ii x) 3)::(67,.row 1 (cN x.rs.length x.n.N.length 6) ((tt0 x 6).map fun x=>ii x) 3)::(68,.row 1 (cN x.rs.length x.n.N.length 7) ((tt0 x 7).map fun x=>ii x) 3)::(69,.row 1 (cN x.rs.length x.n.N.length 8) ((tt0 x 8).map fun x=>ii x) 3)::(70,.row 1 (cN x.rs.length x.n.N.length 9) ((tt0 x 9).map fun x=>ii x) 3)::(71,.row 1 (cN x.rs.length x.n.N.length 10) ((tt0 x 10).map fun x=>ii x) 3)::(72,.row 1 (cN x.rs.length x.n.N.length 11) ((tt0 x 11).map fun x=>ii x) 3)::(73,.row 1 (cN x.rs.length x.n.N.length 12) ((tt0 x 12).map fun x=>ii x) 3)::(74,.row 1 (cN x.rs.length x.n.N.length 13) ((tt0 x 13).map fun x=>ii x) 3)::(75,.row 1 (cN x.rs.length x.n.N.length 14) ((tt0 x 14).map fun x=>ii x) 3)::(76,.row 1 (cN x.rs.length x.n.N.length 15) ((tt0 x 15).map fun x=>ii x) 3)::[])
def agL (x:Lnt)(acts:List ActV):List (Nat×SObj):=((0,.rwin 8 x.n.N.length (x.n.N.flatMap Prm.vals))::(1,.rwin 4 x.n.S.length (x.n.S.flatMap Syn.vals))::(2,.rwin 10 x.rs.length (x.rs.flatMap Rul.vals))::(3,.rwin 1 x.pl.length (qB x.pl))::(4,.rwin 3 acts.length (acts.flatMap ActV.vals))::(32,.row 10 x.rs.length ((x.rs.flatMap Rul.vals).map .v) 40)::[])
theorem lnS_in {S:Nat→Prop}(hS :∀i,i<30→S i)(x:Lnt)(s:Lst):InS S (lnS x s):=⟨⟨hS 6 (by decide),⟨trivial,hS 7 (by decide),trivial,hS 8 (by decide),hS 9 (by decide),hS 14 (by decide),hS 15 (by decide),hS 16 (by decide),hS 17 (by decide),hS 18 (by decide),hS 19 (by decide),hS 20 (by decide),hS 21 (by decide),hS 22 (by decide),hS 23 (by decide),hS 24 (by decide),hS 25 (by decide),hS 26 (by decide),hS 27 (by decide),hS 28 (by decide),hS 29 (by decide),hS 10 (by decide),hS 11 (by decide),hS 12 (by decide),hS 13 (by decide),trivial⟩⟩,trivial⟩
theorem lnM_in {S:Nat→Prop}(hS :∀i,14≤i∧i<30→S i)(s:Lst):InS S (lnM s):=⟨⟨hS 14 (by decide),trivial⟩,⟨hS 15 (by decide),trivial⟩,⟨hS 16 (by decide),trivial⟩,⟨hS 17 (by decide),trivial⟩,⟨hS 18 (by decide),trivial⟩,⟨hS 19 (by decide),trivial⟩,⟨hS 20 (by decide),trivial⟩,⟨hS 21 (by decide),trivial⟩,⟨hS 22 (by decide),trivial⟩,⟨hS 23 (by decide),trivial⟩,⟨hS 24 (by decide),trivial⟩,⟨hS 25 (by decide),trivial⟩,⟨hS 26 (by decide),trivial⟩,⟨hS 27 (by decide),trivial⟩,⟨hS 28 (by decide),trivial⟩,⟨hS 29 (by decide),trivial⟩,trivial⟩
theorem lnT_in {S:Nat→Prop}(hS :∀i,7≤i∧i<14→S i)(x:Lnt)(s:Lst):InS S (lnT x s):=⟨⟨hS 9 (by decide),qQ _ _⟩,⟨hS 12 (by decide),qF _ _⟩,trivial⟩
theorem lnC_in {S:Nat→Prop}(hS :∀i,7≤i∧i<14∧i≠9∧i≠12→S i)(x:Lnt):InS S (lnC x):=⟨⟨hS 7 (by decide),qR _ _⟩,⟨hS 8 (by decide),qR _ _⟩,⟨hS 10 (by decide),qR _ _⟩,⟨hS 11 (by decide),qR _ _⟩,⟨hS 13 (by decide),trivial⟩,trivial⟩
theorem rfH_in {S:Nat→Prop}(hS :∀i,i<5∨i=32∨40≤i∧i<77→S i)(x:Lnt)(s:Lst):InS S (rfH x s):=⟨⟨hS 40 (by decide),⟨hS 0 (by decide),trivial,hS 1 (by decide),hS 32 (by decide),hS 3 (by decide),hS 41 (by decide),hS 42 (by decide),trivial,hS 43 (by decide),hS 44 (by decide),trivial⟩⟩,⟨hS 44 (by decide),⟨hS 45 (by decide),hS 46 (by decide),hS 47 (by decide),hS 48 (by decide),hS 49 (by decide),hS 50 (by decide),hS 51 (by decide),hS 52 (by decide),hS 53 (by decide),hS 54 (by decide),hS 55 (by decide),hS 56 (by decide),hS 57 (by decide),hS 58 (by decide),hS 59 (by decide),hS 60 (by decide),trivial⟩⟩,trivial⟩
theorem rfS_in {S:Nat→Prop}(hS :∀i,40≤i∧i<77→S i)(sn:Nat→List Int):InS S (rfS sn):=⟨⟨hS 45 (by decide),qK _ _⟩,⟨hS 46 (by decide),qK _ _⟩,⟨hS 47 (by decide),qK _ _⟩,⟨hS 48 (by decide),qK _ _⟩,⟨hS 49 (by decide),qK _ _⟩,⟨hS 50 (by decide),qK _ _⟩,⟨hS 51 (by decide),qK _ _⟩,⟨hS 52 (by decide),qK _ _⟩,⟨hS 53 (by decide),qK _ _⟩,⟨hS 54 (by decide),qK _ _⟩,⟨hS 55 (by decide),qK _ _⟩,⟨hS 56 (by decide),qK _ _⟩,⟨hS 57 (by decide),qK _ _⟩,⟨hS 58 (by decide),qK _ _⟩,⟨hS 59 (by decide),qK _ _⟩,⟨hS 60 (by decide),qK _ _⟩,trivial⟩
theorem tab_in {S:Nat→Prop}(m:Nat)(hS :∀i,i<m→S (61+i)):SV.scs S (zT 61 m):=(uR _ _).2 fun a ha=>by
 obtain⟨r,hr,rfl⟩:=List.mem_map.1 ha
 exact hS r (List.mem_range.1 hr)
theorem rfB_in {S:Nat→Prop}(x:Lnt)(hR:x.rs.length≤16)(hS :∀i,(41≤i∧i≤43)∨(61≤i∧i<77)→S i)(s:Lst):InS S (rfB x s):=by
 have htab:SV.scs S (zT 61 x.rs.length):=tab_in _ fun i hi=>hS _ (by omega)
 exact⟨⟨hS 41 (by decide),qF _ _⟩,⟨hS 42 (by decide),htab⟩,⟨hS 43 (by decide),qQ _ _⟩,trivial⟩
theorem rfC_in {S:Nat→Prop}(hS :∀i,(41≤i∧i≤43)∨(61≤i∧i<77)→S i)(x:Lnt):InS S (rfC x):=⟨⟨hS 61 (by decide),qK _ _⟩,⟨hS 62 (by decide),qK _ _⟩,⟨hS 63 (by decide),qK _ _⟩,⟨hS 64 (by decide),qK _ _⟩,⟨hS 65 (by decide),qK _ _⟩,⟨hS 66 (by decide),qK _ _⟩,⟨hS 67 (by decide),qK _ _⟩,⟨hS 68 (by decide),qK _ _⟩,⟨hS 69 (by decide),qK _ _⟩,⟨hS 70 (by decide),qK _ _⟩,⟨hS 71 (by decide),qK _ _⟩,⟨hS 72 (by decide),qK _ _⟩,⟨hS 73 (by decide),qK _ _⟩,⟨hS 74 (by decide),qK _ _⟩,⟨hS 75 (by decide),qK _ _⟩,⟨hS 76 (by decide),qK _ _⟩,trivial⟩
theorem agL_in {S:Nat→Prop}(hS :∀i,i<5∨i=32→S i)(x:Lnt)(acts:List ActV):InS S (agL x acts):=⟨⟨hS 0 (by decide),trivial⟩,⟨hS 1 (by decide),trivial⟩,⟨hS 2 (by decide),trivial⟩,⟨hS 3 (by decide),trivial⟩,⟨hS 4 (by decide),trivial⟩,⟨hS 32 (by decide),qR _ _⟩,trivial⟩
def kpL (x:Lnt)(acts:List ActV)(s:Lst):List (Nat×SObj):=agL x acts++(lnT x s++(lnC x++(rfB x s++rfC x)))
def allL (x:Lnt)(acts:List ActV)(p:Lst×(Nat→List Int)):List (Nat×SObj):=lnS x p.1++(lnM p.1++(rfH x p.1++(rfS p.2++kpL x acts p.1)))
theorem kpL_in {S:Nat→Prop}{x:Lnt}(hR:x.rs.length≤16)(acts:List ActV)(s:Lst)(h1 :∀i,i<5∨i=32→S i)(h2 :∀i,7≤i∧i<14→S i)(h3 :∀i,(41≤i∧i≤43)∨(61≤i∧i<77)→S i):InS S (kpL x acts s):=
 zM (agL_in h1 x acts) (zM (lnT_in h2 x s) (zM (lnC_in (fun i hi=>h2 i (by omega)) x) (zM (rfB_in x hR h3 s) (rfC_in h3 x))))
theorem tK {x:Lnt}(hR:x.rs.length≤16)(acts:List ActV)(p:Lst×(Nat→List Int)){n:Nat}(hn:77≤n):In n (allL x acts p):=
 zM (lnS_in (S:=(· < n)) (fun i hi=>by omega) x p.1) (zM (lnM_in (S:=(· < n)) (fun i hi=>by omega) p.1) (zM (rfH_in (S:=(· < n)) (fun i hi=>by omega) x p.1) (zM (rfS_in (S:=(· < n)) (fun i hi=>by omega) p.2) (kpL_in (S:=(· < n)) hR acts p.1 (fun i hi=>by omega) (fun i hi=>by omega) (fun i hi=>by omega)))))
theorem Run.trimKQ2 {c:Cx}{T T':List (Nat×SV)}{M Ch Kp:List (Nat×SObj)}{n n':Nat}{D:List Deferred}{todo:List Item}{R:Ending→World→Prop}(r:Nat→Nat)(h:Run c ⟨T',Ch++Kp,n',D,todo⟩ R)(hinj :∀i,i<n' → ∀j,j<n'→i≠j→r i≠r j)
  (hT:T'.map (fun x=>Sx.look T x.1)=T'.map fun x=>some (x.2.ren r)) (hTs:(T'.all fun x=>scb n' x.2)=true) (hCh:AllP (fun x=>Sx.look M (r x.1)=some (x.2.ren r)) Ch) (hChs:In n' Ch)
  (S:Nat→Prop) (hS :∀i,S i→r i=i∧i<n') (hKp:Kp.map (fun x=>Sx.look M x.1)=Kp.map fun x=>some x.2) (hKps:InS S Kp) (hL :∀p∈c.L,r p.1=p.1∧p.1<n'):Run c ⟨T,M,n,D,todo⟩ R:=by
 have hK:=u4 hKp
 refine Run.trimKQ r h hinj hT hTs (zM hCh (wT fun x hx=> ?_)) (zM hChs (wT fun x hx=> ?_)) hL
 ·obtain⟨h1,h2⟩:=AllP.mem hKps x hx
  rw[(hS _ h1).1,oren_fix (fun i hi=>(hS i hi).1) h2]
  exact hK.mem x hx
 ·obtain⟨h1,h2⟩:=AllP.mem hKps x hx
  exact⟨(hS _ h1).2,SObj.sc_mono (fun i hi=>(hS i hi).2) h2⟩
theorem _root_.Go.Sx.BSpec.less {P:Program}{g:FuncId}{args:List SV}{Mc:List (Nat×SObj)}{B:Nat}{is:List Nat}{v:SV}{M1 M2:List (Nat×SObj)}{n1:Nat}(h:BSpec P g args Mc B is v M1 n1)(hs :∀i o,Sx.look M2 i=some o→Sx.look M1 i=some o):BSpec P g args Mc B is v M2 n1:=
 fun ρ w L' hW hL=>(h ρ w L' hW hL).mono fun _ _ ⟨ρ',h1,h2,h3,h4⟩=>⟨ρ',h1,h2,h3,h4.sub hs⟩
theorem lM_in0 (x:Lnt)(s:Lst):In 26 (lM x (lC x s) s):=by
 refine⟨⟨by omega,qC _ rfl⟩,?_⟩
 repeat first|exact trivial|refine⟨⟨by omega,Os.h _⟩,?_⟩|refine⟨⟨by omega,Os.h _⟩,?_⟩|refine⟨⟨by omega,Os.h _⟩,?_⟩
theorem lM_in (x:Lnt)(s:Lst){ins rw0:List Int}:In 26 (lM x (lC x s) s++[(24,.rwin 1 ins.length (qB ins)),(25,.rwin 1 rw0.length (qB rw0))]):=by
 refine⟨⟨by omega,qC _ rfl⟩,?_⟩
 repeat first|exact trivial|refine⟨⟨by omega,Os.h _⟩,?_⟩|refine⟨⟨by omega,Os.h _⟩,?_⟩|refine⟨⟨by omega,Os.h _⟩,?_⟩
def nmL (q:Nat):Nat:=if q<24 then 6+q else if q=24 then 77 else 78
def nmR (q:Nat):Nat:=if 8<q∧q<41 then q+36 else rq [(0,40),(1,0),(2,1),(3,43),(4,32),(5,3),(6,41),(7,42),(8,44),(41,77),(42,78)] q
theorem nmL_lt {q:Nat}(h:q<26):nmL q<80:=by have inv :∀q,q<26→nmL q<80:=(by decide);exact inv q h
theorem nmR_lt {q n:Nat}(h:q<43)(hn:80≤n):nmR q<n:=by have inv :∀q,q<43→nmR q<80:=(by decide);have:=inv q h;omega
theorem nmL_inj :∀i∈[0,1,2,3,4,5,6,7,8,9,10,11,12,13,14,15,16,17,18,19,20,21,22,23,24,25],∀j∈[0,1,2,3,4,5,6,7,8,9,10,11,12,13,14,15,16,17,18,19,20,21,22,23,24,25],i≠j→nmL i≠nmL j:=by decide
theorem nmR_inj :∀i∈[0,1,2,3,4,5,6,7,8,41,42,9,10,11,12,13,14,15,16,17,18,19,20,21,22,23,24,25,26,27,28,29,30,31,32,33,34,35,36,37,38,39,40],∀j∈[0,1,2,3,4,5,6,7,8,41,42,9,10,11,12,13,14,15,16,17,18,19,20,21,22,23,24,25,26,27,28,29,30,31,32,33,34,35,36,37,38,39,40],i≠j→nmR i≠nmR j:=by decide
theorem nmR_tab {j R:Nat}(hj:j<R)(hR:R≤16):nmR (25+j)=61+j:=by unfold nmR;rw[if_pos (by omega)];omega
theorem stepN_bad (x:Lnt)(s:Lst)(e:Int)(hx:NetOK x)(he:jX x s [] []=e)(hne:e≠0) :
  BSpec Try.prog 27 [.ptr 0 0,nq,nq] (lM x (lC x s) s) 26 [0,3,6] (.tup [nq,ii e]) [(0,.cells (qH (ii s.tick) x.n.inp (fun k=>.mp (8+k)) (.mp 7)) 96),(3,.row 2 x.n.N.length (s.st.flatMap Ste.cells) 139),(6,.row 4 x.pl.length (s.m.flatMap Mrk.cells) 84)] 26:=by
 have h0:=Step_bad x s [] [] e hx he hne (by decide) (by decide)
 have h1:BSpec Try.prog 27 [.ptr 0 0,.opq 24,nq] (lM x (lC x s) s++[(24,.rwin 1 0 [])]) 26 [0,3,6] (.tup [nq,ii e]) [(0,.cells (qH (ii s.tick) x.n.inp (fun k=>.mp (8+k)) (.mp 7)) 96),(3,.row 2 x.n.N.length (s.st.flatMap Ste.cells) 139),(6,.row 4 x.pl.length (s.m.flatMap Mrk.cells) 84)] 26:=by
  refine BSpec.pZ 25 1 h0 (by decide) (fun ρ hρ=>by simp only[SV.concs,SV.conc,hρ]) ⟨(show 0≠25 by decide),(show 24≠25 by decide),trivial,trivial⟩ ?_ ?_ ⟨trivial,trivial,trivial⟩ ?_
  ·repeat first|exact trivial|refine⟨⟨by omega,Os.h _⟩,?_⟩|refine⟨⟨by omega,Os.h _⟩,?_⟩|refine⟨⟨by omega,Os.h _⟩,?_⟩|refine⟨⟨by omega,by simp[lC,qH,SObj.sc,SV.scs,SV.sc]⟩,?_⟩
  ·repeat first|exact trivial|refine⟨rfl,?_⟩
  ·repeat first|exact trivial|refine⟨⟨by omega,Os.h _⟩,?_⟩|refine⟨⟨by omega,Os.h _⟩,?_⟩|refine⟨⟨by omega,Os.h _⟩,?_⟩|refine⟨⟨by omega,by simp[qH,SObj.sc,SV.scs,SV.sc]⟩,?_⟩
 refine BSpec.pZ 24 1 h1 (by decide) (fun ρ hρ=>by simp only[SV.concs,SV.conc,hρ]) ⟨(show 0≠24 by decide),trivial,trivial,trivial⟩ ?_ ?_ ⟨trivial,trivial,trivial⟩ ?_
 ·repeat first|exact trivial|refine⟨⟨by omega,Os.h _⟩,?_⟩|refine⟨⟨by omega,Os.h _⟩,?_⟩|refine⟨⟨by omega,Os.h _⟩,?_⟩|refine⟨⟨by omega,by simp[lC,qH,SObj.sc,SV.scs,SV.sc]⟩,?_⟩
 ·repeat first|exact trivial|refine⟨rfl,?_⟩
 ·repeat first|exact trivial|refine⟨⟨by omega,Os.h _⟩,?_⟩|refine⟨⟨by omega,Os.h _⟩,?_⟩|refine⟨⟨by omega,Os.h _⟩,?_⟩|refine⟨⟨by omega,by simp[qH,SObj.sc,SV.scs,SV.sc]⟩,?_⟩
theorem stepN_ok (x:Lnt)(s:Lst)(hx:NetOK x)(h:LInv x s)(he:jX x s [] []=0) :∃M1,
  BSpec Try.prog 27 [.ptr 0 0,nq,nq] (lM x (lC x s) s) 26 [0,3,6] (.tup [.opq 27,ii 0]) M1 28:=by
 have h0:=Step_ok x s [] [] hx h he (by decide) (by decide)
 have h1:BSpec Try.prog 27 [.ptr 0 0,.opq 24,nq] (lM x (lC x s) s++[(24,.rwin 1 0 [])]) 26 [0,3,6] (.tup [.opq 27,ii 0]) [] 28:=by
  refine BSpec.pZ 25 1 (h0.less fun _ _ h=>by cases h) (by decide) (fun ρ hρ=>by simp only[SV.concs,SV.conc,hρ]) ⟨(show 0≠25 by decide),(show 24≠25 by decide),trivial,trivial⟩ ?_ ?_ ⟨(show 27≠25 by decide),trivial,trivial⟩ trivial
  ·repeat first|exact trivial|refine⟨⟨by omega,Os.h _⟩,?_⟩|refine⟨⟨by omega,Os.h _⟩,?_⟩|refine⟨⟨by omega,Os.h _⟩,?_⟩|refine⟨⟨by omega,by simp[lC,qH,SObj.sc,SV.scs,SV.sc]⟩,?_⟩
  ·repeat first|exact trivial|refine⟨rfl,?_⟩
 refine⟨[],BSpec.pZ 24 1 h1 (by decide) (fun ρ hρ=>by simp only[SV.concs,SV.conc,hρ]) ⟨(show 0≠24 by decide),trivial,trivial,trivial⟩ ?_ ?_ ⟨(show 27≠24 by decide),trivial,trivial⟩ trivial⟩
 ·repeat first|exact trivial|refine⟨⟨by omega,Os.h _⟩,?_⟩|refine⟨⟨by omega,Os.h _⟩,?_⟩|refine⟨⟨by omega,Os.h _⟩,?_⟩|refine⟨⟨by omega,by simp[lC,qH,SObj.sc,SV.scs,SV.sc]⟩,?_⟩
 ·repeat first|exact trivial|refine⟨rfl,?_⟩
abbrev pfLS:PF:=[(37,FNow),(14,zV FTrue_v),(17+1000,FRef)]
theorem pfLS_ok:PF.oks Try.prog pfLS:=⟨now_pure,works_pure,mk_ref,trivial⟩
theorem learnSteps_walk (w:World)(vN vS:Value)(n:Net)(hn:vK w vN vS n)(vR:Value)(rs:List Rul)(hr:RowsAt w vR 10 rs.length (rs.flatMap Rul.vals))(_:rs.length≤maxLen)(vP:Value)(pl:List Int)(hpl:RowsAt w vP 1 pl.length (qB pl))(_:pl.length≤maxLen)(vA:Value)(acts:List ActV)(hA:RowsAt w vA 3 acts.length (acts.flatMap ActV.vals))(hok :∀a∈acts,a.ok w) :
  Calls Try.prog 12 #[xL vN vS n,vR,vP,vA] w fun e w'=>e = .returned (.bool true)∧Ext w w':=by
 have hc :∀L,Cx.ok ⟨Try.prog,tab,pfLS,12,Try.f12,[],w,L,none⟩:=fun L=>⟨qI,pfLS_ok,Try.func12,mixed,fun _ h=>by cases h⟩
 obtain⟨h1,h2⟩:=hn
 obtain⟨N,inp,S⟩:=n
 simp only at h1 h2
 obtain⟨x,hxd⟩ :∃x:Lnt,x=⟨⟨N,inp,S⟩,rs,pl⟩:=⟨_,rfl⟩
 obtain rfl:N=x.n.N:=by rw[hxd]
 obtain rfl:inp=x.n.inp:=by rw[hxd]
 obtain rfl:S=x.n.S:=by rw[hxd]
 obtain rfl:rs=x.rs:=by rw[hxd]
 obtain rfl:pl=x.pl:=by rw[hxd]
 clear hxd
 have hrows:AllP (fun x:Value×Nat×Nat×List Value=>RowsAt w x.1 x.2.1 x.2.2.1 x.2.2.2) [(vN,8,x.n.N.length,x.n.N.flatMap Prm.vals),(vS,4,x.n.S.length,x.n.S.flatMap Syn.vals),(vR,10,x.rs.length,x.rs.flatMap Rul.vals),(vP,1,x.pl.length,qB x.pl),(vA,3,acts.length,acts.flatMap ActV.vals)]:=⟨h1,h2,hr,hpl,hA,trivial⟩
 refine Run.pH Try.func12 rfl _ hrows [.agg [.opq 0,ii x.n.inp,.opq 1],.opq 2,.opq 3,.opq 4] [xL vN vS ⟨x.n.N,x.n.inp,x.n.S⟩,vR,vP,vA] [(0,.rwin 8 x.n.N.length (x.n.N.flatMap Prm.vals)),(1,.rwin 4 x.n.S.length (x.n.S.flatMap Syn.vals)),(2,.rwin 10 x.rs.length (x.rs.flatMap Rul.vals)),(3,.rwin 1 x.pl.length (qB x.pl)),(4,.rwin 3 acts.length (acts.flatMap ActV.vals))] 5 rfl rfl
  (by show [Value.agg [(SV.opq 0).conc _,.int .i64 x.n.inp,(SV.opq 1).conc _].toArray,(SV.opq 2).conc _,(SV.opq 3).conc _,(SV.opq 4).conc _]=_;rw[qS hrows (k:=0) rfl,qS hrows (k:=1) rfl,qS hrows (k:=2) rfl,qS hrows (k:=3) rfl,qS hrows (k:=4) rfl];rfl) (by simp[SV.scs,SV.sc]) rfl (Run.r8 (hc _) 1000 _ ?_)
 conv=>whnf
 refine Run.pD (g:=13) (vs:=[.agg [.opq 0,ii x.n.inp,.opq 1],.opq 2,.opq 3]) (caps:=[]) (.v (.bool (fewB x.n x.rs x.pl))) (fun ρ w1 hW=>few_run _ _ x.n _ x.rs _ x.pl w1 ⟨hW.rowsAt rfl,hW.rowsAt rfl⟩ (hW.rowsAt rfl) (hW.rowsAt rfl)) (ent _ _ Try.func13 (by kernel_rfl) rfl) rfl rfl rfl rfl rfl rfl rfl trivial ?_
 cases b:fewB x.n x.rs x.pl
 ·refine Run.W1 (hc _) ?_
  conv=>whnf
  exact⟨fun ρ w' hW _=>⟨rfl,hW.toExt⟩⟩
 have hrl:x.rs.length≤17:=by
  unfold fewB at b
  simp only[Bool.and_eq_true,decide_eq_true_eq]at b
  omega
 refine Run.W1 (hc _) ?_
 conv=>whnf
 cases hal:decide ((60:Int)<(acts.length:Int))
 case true=>
  conv=>whnf
  exact⟨fun ρ w' hW _=>⟨rfl,hW.toExt⟩⟩
 conv=>whnf
 obtain⟨ck,hck⟩ :∃ck,zD x.n x.rs x.pl=ck:=⟨_,rfl⟩
 by_cases hck0:ck=0
 rotate_left
 ·refine Run.pD (g:=25) (vs:=[.agg [.opq 0,ii x.n.inp,.opq 1],.opq 2,.opq 3]) (caps:=[]) (.tup [.v (.pointer none),ii ck]) (fun ρ w1 hW=>by
   have:=new_bad _ _ x.n _ x.rs _ x.pl w1 (by rw[hck];exact hck0) ⟨hW.rowsAt (i:=0) rfl,hW.rowsAt (i:=1) rfl⟩ (hW.rowsAt (i:=2) rfl) (hW.rowsAt (i:=3) rfl)
   rw[hck]at this
   exact this) (ent _ _ Try.func25 (by kernel_rfl) rfl) rfl rfl rfl rfl rfl rfl rfl (by simp[SV.sc,SV.scs]) ?_
  refine Run.W1 (hc _) ?_
  conv=>whnf
  refine Run.draw0 (hc _) fun l0 hl0=> ?_
  refine Run.drawP (hc _) 0 4 hl0 (by omega) ?_
  rw[show qD 0 (4-0)=qD 0 2++qD 2 2 from rfl]
  simp only[qN]
  conv=>whnf
  rw[xE (F:=FRef) rfl rfl rfl rfl rfl (FRef_eq (rowOf_win rfl) (by omega))]
  conv=>whnf
  refine⟨by kernel_rfl,fun l1 hl1=> ?_⟩
  obtain⟨l2,rfl,hl2⟩:=hl1.one (by decide) (by kernel_rfl) (by kernel_rfl)
  refine Run.pD (g:=38) (vs:=[.agg [.opq 0,ii x.n.inp,.opq 1],.opq 8,.opq 3]) (caps:=[]) (.tup [.v (.pointer none),ii ck]) (fun ρ w1 hW=>by
   have:=rnew_bad _ _ x.n _ x.rs _ x.pl w1 (by rw[hck];exact hck0) ⟨hW.rowsAt (i:=0) rfl,hW.rowsAt (i:=1) rfl⟩ (rowOf_at hW (i:=8) (by decide) (rowOf_row rfl)) (hW.rowsAt (i:=3) rfl)
   rw[hck]at this
   exact this) (ent _ _ Try.func38 (by kernel_rfl) rfl) rfl rfl rfl rfl rfl rfl rfl (by simp[SV.sc,SV.scs]) ?_
  refine Run.drawP (hc _) 5 10 hl2 (by omega) ?_
  conv=>whnf
  refine⟨by kernel_rfl,fun l3 hl3=> ?_⟩
  rw[hl3.rest (by decide) (by kernel_rfl) (by kernel_rfl)]
  refine Run.W1 (hc _) ?_
  conv=>whnf
  rw[show(ck != ck)=false by simp]
  conv=>whnf
  rw[show(ck==0)=false by simpa using hck0]
  conv=>whnf
  rw[show(ck != 0)=true by simpa using hck0]
  conv=>whnf
  exact⟨fun ρ w' hW _=>⟨rfl,hW.toExt⟩⟩
 have hck':zD x.n x.rs x.pl=0:=hck.trans hck0
 have hx:NetOK x:=gG hck'
 have hR:=hx.rl
 have hpl2:=hx.lpl
 clear hck hck0
 refine Run.pI (new_ok x hck') (ent _ _ Try.func25 (by kernel_rfl) rfl) rfl rfl rfl rfl rfl rfl rfl [.agg [.opq 0,ii x.n.inp,.opq 1],.opq 2,.opq 3] rfl id rfl (fun q hq=>by show q<6;omega) _ rfl (fun q _ j _ hne=>hne) rfl (by repeat first|exact trivial|refine⟨⟨by omega,Os.h _⟩,?_⟩) rfl (by repeat first|exact trivial|refine⟨⟨_,rfl,Conv.refl _⟩,?_⟩) (fun q hq=>by cases hq)
  (.tup [.ptr 6 0,ii 0]) (lnS x x.new++(lnM x.new++(lnT x x.new++lnC x))) [(0,.rwin 8 x.n.N.length (x.n.N.flatMap Prm.vals)),(1,.rwin 4 x.n.S.length (x.n.S.flatMap Syn.vals)),(2,.rwin 10 x.rs.length (x.rs.flatMap Rul.vals)),(3,.rwin 1 x.pl.length (qB x.pl)),(4,.rwin 3 acts.length (acts.flatMap ActV.vals)),(5,.cells [.opq 0,ii x.n.inp,.opq 1] 25)] 30 rfl rfl ⟨⟨4,_,rfl,rfl,rfl,rfl⟩,⟨12,_,rfl,rfl,rfl,rfl⟩,⟨13,_,rfl,rfl,rfl,rfl⟩,⟨14,_,rfl,rfl,rfl,rfl⟩,⟨15,_,rfl,rfl,rfl,rfl⟩,⟨16,_,rfl,rfl,rfl,rfl⟩,⟨17,_,rfl,rfl,rfl,rfl⟩,⟨18,_,rfl,rfl,rfl,rfl⟩,⟨19,_,rfl,rfl,rfl,rfl⟩,⟨20,_,rfl,rfl,rfl,rfl⟩,⟨21,_,rfl,rfl,rfl,rfl⟩,⟨22,_,rfl,rfl,rfl,rfl⟩,⟨23,_,rfl,rfl,rfl,rfl⟩,⟨24,_,rfl,rfl,rfl,rfl⟩,⟨25,_,rfl,rfl,rfl,rfl⟩,⟨26,_,rfl,rfl,rfl,rfl⟩,⟨27,_,rfl,rfl,rfl,rfl⟩,⟨7,_,rfl,rfl,(ofx (o:=.row 2 x.n.N.length (x.new.st.flatMap Ste.cells) 139) (qQ _ _)).symm,rfl⟩,⟨10,_,rfl,rfl,by rw[ofx (o:=.row 4 x.n.S.length (x.m0.flatMap Mrk.cells) 84) (qF _ _)];exact congrArg (fun k=>SObj.row 4 k _ 84) hpl2,rfl⟩,⟨5,_,rfl,rfl,(ofx (o:=.row 8 x.n.N.length ((x.n.N.flatMap Prm.vals).map .v) 60) (qR _ _)).symm,rfl⟩,⟨6,_,rfl,rfl,(ofx (o:=.row 4 x.n.S.length ((x.n.S.flatMap Syn.vals).map .v) 55) (qR _ _)).symm,rfl⟩,⟨8,_,rfl,rfl,(ofx (o:=.row 10 x.rs.length ((x.rs.flatMap Rul.vals).map .v) 36) (qR _ _)).symm,rfl⟩,⟨9,_,rfl,rfl,(ofx (o:=.row 1 x.pl.length ((qB x.pl).map .v) 3) (qR _ _)).symm,rfl⟩,⟨11,_,rfl,rfl,rfl,rfl⟩,trivial⟩ rfl rfl ?_
 refine Run.W1 (hc _) ?_
 conv=>whnf
 refine Run.draw0 (hc _) fun l0 hl0=> ?_
 refine Run.drawP (hc _) 0 4 hl0 (by omega) ?_
 rw[show qD 0 (4-0)=qD 0 2++qD 2 2 from rfl]
 simp only[qN]
 conv=>whnf
 rw[xE (F:=FRef) rfl rfl rfl rfl rfl (FRef_eq (rowOf_win rfl) (by omega))]
 conv=>whnf
 refine⟨by kernel_rfl,fun l1 hl1=> ?_⟩
 obtain⟨l2,rfl,hl2⟩:=hl1.one (by decide) (by kernel_rfl) (by kernel_rfl)
 refine Run.pI (rnew_ok x hck') (ent _ _ Try.func38 (by kernel_rfl) rfl) rfl rfl rfl rfl rfl rfl rfl [.agg [.opq 0,ii x.n.inp,.opq 1],.opq 32,.opq 3] rfl (rq [(2,32)]) rfl (fun q hq=>by have inv :∀q,q<4→rq [(2,32)] q<40:=(by decide);exact inv q hq) _ rfl (fun q hq j hj hne=>by have inj :∀q∈[0,1,2,3],∀j∈[0,1,2,3],q≠j→rq [(2,32)] q≠rq [(2,32)] j:=(by decide);exact inj q hq j hj hne) rfl (by repeat first|exact trivial|refine⟨⟨by omega,Os.h _⟩,?_⟩) rfl ⟨⟨_,rfl,Conv.refl _⟩,⟨_,rfl,Conv.refl _⟩,⟨_,rfl,Conv.row (by decide) rfl⟩,⟨_,rfl,Conv.refl _⟩,trivial⟩ (fun q hq=>by cases hq)
  (.tup [.ptr 40 0,ii 0]) (rfH x x.new++(rfS (fun _=>[])++(rfB x x.new++rfC x))) (agL x acts++(lnS x x.new++(lnM x.new++(lnT x x.new++lnC x)))) 77 rfl rfl ⟨⟨4,_,rfl,rfl,rfl,rfl⟩,⟨8,_,rfl,rfl,rfl,rfl⟩,⟨9,_,rfl,rfl,rfl,rfl⟩,⟨10,_,rfl,rfl,rfl,rfl⟩,⟨11,_,rfl,rfl,rfl,rfl⟩,⟨12,_,rfl,rfl,rfl,rfl⟩,⟨13,_,rfl,rfl,rfl,rfl⟩,⟨14,_,rfl,rfl,rfl,rfl⟩,⟨15,_,rfl,rfl,rfl,rfl⟩,⟨16,_,rfl,rfl,rfl,rfl⟩,⟨17,_,rfl,rfl,rfl,rfl⟩,⟨18,_,rfl,rfl,rfl,rfl⟩,⟨19,_,rfl,rfl,rfl,rfl⟩,⟨20,_,rfl,rfl,rfl,rfl⟩,⟨21,_,rfl,rfl,rfl,rfl⟩,⟨22,_,rfl,rfl,rfl,rfl⟩,⟨23,_,rfl,rfl,rfl,rfl⟩,⟨24,_,rfl,rfl,rfl,rfl⟩,⟨5,_,rfl,rfl,(ofx (o:=.row 4 x.n.S.length (x.new.m.flatMap Mrk.cells) 141) (qF _ _)).symm,rfl⟩,⟨6,_,rfl,rfl,(z5 (b:=25) (b':=61) fun j hj=>by rw[shR_ge (by omega)];show 40+(25+j-4)=61+j;omega).symm,rfl⟩,⟨7,_,rfl,rfl,(ofx (o:=.row 2 x.n.N.length (x.new.st.flatMap Ste.cells) 139) (qQ _ _)).symm,rfl⟩,⟨25,_,rfl,rfl,(ofx (o:=.row 1 (cN x.rs.length x.n.N.length 0) ((tt0 x 0).map fun x=>ii x) 3) (qK _ _)).symm,rfl⟩,⟨26,_,rfl,rfl,(ofx (o:=.row 1 (cN x.rs.length x.n.N.length 1) ((tt0 x 1).map fun x=>ii x) 3) (qK _ _)).symm,rfl⟩,⟨27,_,rfl,rfl,(ofx (o:=.row 1 (cN x.rs.length x.n.N.length 2) ((tt0 x 2).map fun x=>ii x) 3) (qK _ _)).symm,rfl⟩,⟨28,_,rfl,rfl,(ofx (o:=.row 1 (cN x.rs.length x.n.N.length 3) ((tt0 x 3).map fun x=>ii x) 3) (qK _ _)).symm,rfl⟩,⟨29,_,rfl,rfl,(ofx (o:=.row 1 (cN x.rs.length x.n.N.length 4) ((tt0 x 4).map fun x=>ii x) 3) (qK _ _)).symm,rfl⟩,⟨30,_,rfl,rfl,(ofx (o:=.row 1 (cN x.rs.length x.n.N.length 5) ((tt0 x 5).map fun x=>ii x) 3) (qK _ _)).symm,rfl⟩,⟨31,_,rfl,rfl,(ofx (o:=.row 1 (cN x.rs.length x.n.N.length 6) ((tt0 x 6).map fun x=>ii x) 3) (qK _ _)).symm,rfl⟩,⟨32,_,rfl,rfl,(ofx (o:=.row 1 (cN x.rs.length x.n.N.length 7) ((tt0 x 7).map fun x=>ii x) 3) (qK _ _)).symm,rfl⟩,⟨33,_,rfl,rfl,(ofx (o:=.row 1 (cN x.rs.length x.n.N.length 8) ((tt0 x 8).map fun x=>ii x) 3) (qK _ _)).symm,rfl⟩,⟨34,_,rfl,rfl,(ofx (o:=.row 1 (cN x.rs.length x.n.N.length 9) ((tt0 x 9).map fun x=>ii x) 3) (qK _ _)).symm,rfl⟩,⟨35,_,rfl,rfl,(ofx (o:=.row 1 (cN x.rs.length x.n.N.length 10) ((tt0 x 10).map fun x=>ii x) 3) (qK _ _)).symm,rfl⟩,⟨36,_,rfl,rfl,(ofx (o:=.row 1 (cN x.rs.length x.n.N.length 11) ((tt0 x 11).map fun x=>ii x) 3) (qK _ _)).symm,rfl⟩,⟨37,_,rfl,rfl,(ofx (o:=.row 1 (cN x.rs.length x.n.N.length 12) ((tt0 x 12).map fun x=>ii x) 3) (qK _ _)).symm,rfl⟩,⟨38,_,rfl,rfl,(ofx (o:=.row 1 (cN x.rs.length x.n.N.length 13) ((tt0 x 13).map fun x=>ii x) 3) (qK _ _)).symm,rfl⟩,⟨39,_,rfl,rfl,(ofx (o:=.row 1 (cN x.rs.length x.n.N.length 14) ((tt0 x 14).map fun x=>ii x) 3) (qK _ _)).symm,rfl⟩,⟨40,_,rfl,rfl,(ofx (o:=.row 1 (cN x.rs.length x.n.N.length 15) ((tt0 x 15).map fun x=>ii x) 3) (qK _ _)).symm,rfl⟩,trivial⟩ rfl rfl ?_
 refine Run.drawP (hc _) 5 10 hl2 (by omega) ?_
 conv=>whnf
 refine⟨by kernel_rfl,fun l3 hl3=> ?_⟩
 rw[hl3.rest (by decide) (by kernel_rfl) (by kernel_rfl)]
 refine Run.W1 (hc _) ?_
 conv=>whnf
 refine Run.pT (T:=fun i=>[(3,.opq 4),(8,.v (.bool false)),(9,.ptr 6 0),(11,.ptr 40 0),(13,ii ((i:Nat):Int))]) (M:=fun i=>allL x acts (stS x acts i)) 77 (fun i=>AOK x (stS x acts i)) acts.length rfl rfl rfl (tK hR acts _ (Nat.le_refl _)) (fun p hp=>by cases hp) (AOK.start hx) ?_ ?_
 ·intro i hi hJ ih
  obtain⟨a,ha⟩ :∃a,acts[i]=a:=⟨_,rfl⟩
  have hag:acts.getD i act0=a:=by simp[List.getD_eq_getElem?_getD,hi,ha]
  have hst:stS x acts (i+1)=actS x a (stS x acts i):=by show actS x (acts.getD i act0) _=_;rw[hag]
  have hao:a.ok w:=hok a (ha▸List.getElem_mem hi)
  obtain⟨_,p1,c1,e1,_⟩:=id hao.1
  obtain⟨_,p2,c2,e2,_⟩:=id hao.2
  have ha60:acts.length≤60:=by have:=of_decide_eq_false hal;omega
  obtain⟨p,hp⟩ :∃p,stS x acts i=p:=⟨_,rfl⟩
  rw[hp]at hst hJ ⊢
  rw[hst]at ih
  clear hst hp
  obtain⟨s,sn⟩:=p
  have hsu:IntKind.i64.wrap (((i:Nat):Int)+1)=((i+1:Nat):Int):=zH (by omega)
  have hL77 :∀n,∀p∈([]:List (Nat×Nat)),p.1<n:=fun _ p hp=>by cases hp
  refine Run.r8 (hc _) 18 _ ?_
  conv=>whnf
  rw[decide_eq_true (show((i:Nat):Int)<(acts.length:Int)by omega)]
  conv=>whnf
  refine⟨by omega,?_⟩
  conv=>whnf
  rw[zZ (f:=ActV.vals) (l:=acts) i rfl rfl rfl rfl rfl ActV.vlen (by rw[qE]) hi,ha,show a.vals=[.int .u8 a.what,.slice p1 a.ins.length c1,.slice p2 a.rws.length c2]by unfold ActV.vals;rw[e1,e2]]
  conv=>whnf
  refine Run.readV rfl (.slice p1 a.ins.length c1) 1 a.ins.length (qB a.ins) (by rw[←e1];exact hao.1) (T':=[(68,.agg [.v (.int .u8 a.what),.opq 77,.v (.slice p2 a.rws.length c2)]),(3,.opq 4),(8,.v (.bool false)),(9,.ptr 6 0),(11,.ptr 40 0),(13,ii ((i:Nat):Int))]) (by exact AllP.mem ⟨.inr ⟨_,_,rfl,rfl,.inl rfl,.inr ⟨rfl,rfl⟩,.inl rfl,trivial⟩,.inl rfl,.inl rfl,.inl rfl,.inl rfl,.inl rfl,trivial⟩) ?_
  refine Run.readV rfl (.slice p2 a.rws.length c2) 1 a.rws.length (qB a.rws) (by rw[←e2];exact hao.2) (T':=[(68,.agg [.v (.int .u8 a.what),.opq 77,.opq 78]),(3,.opq 4),(8,.v (.bool false)),(9,.ptr 6 0),(11,.ptr 40 0),(13,ii ((i:Nat):Int))]) (by exact AllP.mem ⟨.inr ⟨_,_,rfl,rfl,.inl rfl,.inl rfl,.inr ⟨rfl,rfl⟩,trivial⟩,.inl rfl,.inl rfl,.inl rfl,.inl rfl,.inl rfl,trivial⟩) ?_
  refine Run.W1 (hc _) ?_
  conv=>whnf
  cases hl1:decide ((300:Int)<(a.ins.length:Int))
  case true=>
   conv=>whnf
   exact⟨fun ρ w' hW _=>⟨rfl,hW.toExt⟩⟩
  conv=>whnf
  cases hl2:decide ((20:Int)<(a.rws.length:Int))
  case true=>
   conv=>whnf
   exact⟨fun ρ w' hW _=>⟨rfl,hW.toExt⟩⟩
  conv=>whnf
  have hi300:a.ins.length≤300:=by have:=of_decide_eq_false hl1;omega
  have hr20:a.rws.length≤20:=by have:=of_decide_eq_false hl2;omega
  have hJ2:=hJ.next hx hi300
  have hinv:=hJ.inv
  have hsn:=hJ.sn
  have htk:=hJ.tk
  simp only at hinv hsn htk
  apply joinL (c:=⟨Try.prog,tab,pfLS,12,Try.f12,[],w,[],none⟩) (R:=fun e w'=>e = .returned (.bool true)∧Ext w w') [(3,.opq 4),(8,.v (.bool false)),(9,.ptr 6 0),(11,.ptr 40 0),(13,ii ((i:Nat):Int))] (allL x acts (actS x a (s,sn))) 77
  ·intro tail
   cases hcp:isCopy a
   case false=>
    unfold isCopy at hcp
    refine⟨by decide,?_⟩
    conv=>whnf
    rw[hcp]
    conv=>whnf
    change isCopy a=false at hcp
    by_cases he:jX x s a.ins a.rws=0
    rotate_left
    ·obtain⟨e,hee⟩ :∃e,jX x s a.ins a.rws=e:=⟨_,rfl⟩
     rw[hee]at he
     have hact:actS x a (s,sn)=(s,sn):=by unfold actS;rw[if_neg (by rw[hcp];decide),if_neg (by rw[hee];exact he)]
     rw[hact]at tail
     refine Run.pI (Step_bad x s a.ins a.rws e hx hee he (by omega) (by omega)) (ent _ _ Try.func27 (by kernel_rfl) rfl) rfl rfl rfl rfl rfl rfl rfl [.ptr 6 0,.opq 77,.opq 78] rfl nmL rfl (fun q hq=>nmL_lt hq) _ rfl nmL_inj rfl (lM_in x s) rfl
      (by repeat first|exact trivial|refine⟨⟨_,rfl,Conv.refl _⟩,?_⟩|refine⟨⟨_,rfl,Conv.map⟩,?_⟩|refine⟨⟨_,rfl,Conv.row (by decide) rfl⟩,?_⟩|refine⟨⟨_,rfl,by rw[ofx (o:=.row 2 x.n.N.length (s.st.flatMap Ste.cells) 139) (qQ _ _)];exact Conv.refl _⟩,?_⟩|refine⟨⟨_,rfl,by rw[ofx (o:=.row 4 x.pl.length (s.m.flatMap Mrk.cells) 84) (qF _ _)];exact Conv.refl _⟩,?_⟩) (fun q hq=>by simp at hq;rcases hq with rfl|rfl|rfl<;>simp[lM,stepM])
      (.tup [nq,ii e]) (lnS x s++lnT x s) ((79,.cells [.v (.int .u8 a.what),.opq 77,.opq 78] 104)::(77,.rwin 1 a.ins.length (qB a.ins))::(78,.rwin 1 a.rws.length (qB a.rws))::(lnM s++(lnC x++(agL x acts++(rfH x s++(rfS sn++(rfB x s++rfC x))))))) 80 rfl rfl ⟨⟨0,_,rfl,rfl,rfl,rfl⟩,⟨3,_,rfl,rfl,(ofx (o:=.row 2 x.n.N.length (s.st.flatMap Ste.cells) 139) (qQ _ _)).symm,rfl⟩,⟨6,_,rfl,rfl,(ofx (o:=.row 4 x.pl.length (s.m.flatMap Mrk.cells) 84) (qF _ _)).symm,rfl⟩,trivial⟩ rfl rfl ?_
     refine Run.W1 (hc _) ?_
     conv=>whnf
     refine Run.pI (rStep_bad x s sn a.ins a.rws e hx hee he (by omega) (by omega)) (ent _ _ Try.func39 (by kernel_rfl) rfl) rfl rfl rfl rfl rfl rfl rfl [.ptr 40 0,.opq 77,.opq 78] rfl nmR rfl (fun q hq=>nmR_lt hq (by decide)) _ rfl nmR_inj rfl (rM_in hR s sn (by omega) ⟨⟨by omega,Os.h _⟩,⟨by omega,Os.h _⟩,trivial⟩) rfl
      (by repeat first|exact trivial|refine⟨⟨_,rfl,Conv.refl _⟩,?_⟩|refine⟨⟨_,rfl,Conv.row (by decide) (wV _)⟩,?_⟩|refine⟨⟨_,rfl,Conv.row (by decide) rfl⟩,?_⟩|refine⟨⟨_,rfl,by rw[ofx (o:=.row 2 x.n.N.length (s.st.flatMap Ste.cells) 139) (qQ _ _)];exact Conv.refl _⟩,?_⟩|refine⟨⟨_,rfl,by rw[ofx (o:=.row 4 x.n.S.length (s.m.flatMap Mrk.cells) 141) (qF _ _)];exact Conv.refl _⟩,?_⟩|refine⟨⟨_,rfl,by rw[z5 (b:=25) (b':=61) fun j hj=>nmR_tab hj hR];exact Conv.refl _⟩,?_⟩) (fun q hq=>by simp at hq;rcases hq with rfl|rfl|rfl|rfl|rfl<;>simp[rM])
      (.tup [nq,ii e]) (rfH x s++rfB x s) (lnS x s++(lnM s++(lnT x s++(lnC x++(agL x acts++(rfS sn++rfC x)))))) 80 rfl rfl ⟨⟨0,_,rfl,rfl,rfl,rfl⟩,⟨8,_,rfl,rfl,rfl,rfl⟩,⟨6,_,rfl,rfl,(ofx (o:=.row 4 x.n.S.length (s.m.flatMap Mrk.cells) 141) (qF _ _)).symm,rfl⟩,⟨7,_,rfl,rfl,(z5 (b:=25) (b':=61) fun j hj=>by rw[v8 (show 25+j<43 by omega)];exact nmR_tab hj hR).symm,rfl⟩,⟨3,_,rfl,rfl,(ofx (o:=.row 2 x.n.N.length (s.st.flatMap Ste.cells) 139) (qQ _ _)).symm,rfl⟩,trivial⟩ rfl rfl ?_
     refine Run.W1 (hc _) ?_
     conv=>whnf
     rw[show(e != e)=false by simp]
     conv=>whnf
     refine Run.pD (g:=31) (vs:=[nq,nq]) (caps:=[]) (.v (.bool true)) (fun ρ w1 hW=>by
      have:=equal_run _ _ [] [] w1 ⟨rfl,none,0,rfl,Nat.le_refl _,.inl rfl⟩ ⟨rfl,none,0,rfl,Nat.le_refl _,.inl rfl⟩ (by decide)
      rw[decide_eq_true rfl]at this
      exact this) (ent _ _ Try.func31 (by kernel_rfl) rfl) rfl rfl rfl rfl rfl rfl rfl trivial ?_
     refine Run.W1 (hc _) ?_
     conv=>whnf
     exact Run.pN tail rfl rfl rfl (tK hR acts _ (Nat.le_refl _)) (hL77 _)
    have htl:=wS he
    obtain⟨s2,hs2⟩ :∃s2,lN x s a.ins (j9 x.rs.length a.rws)=s2:=⟨_,rfl⟩
    obtain⟨k,hk⟩ :∃k,z6 s.tick=k:=⟨_,rfl⟩
    have hk16:k<16:=by rw[←hk];exact uM
    have ht2:W (s.tick+1)=s2.tick:=by rw[←hs2];rfl
    obtain⟨S2,hS2⟩ :∃S2,s2.sm k=S2:=⟨_,rfl⟩
    have hssm :∀j,s2.sm j=if j=k then S2 else s.sm j:=fun j=>by
     by_cases h:j=k
     ·subst h;rw[if_pos rfl,hS2]
     ·rw[if_neg h,←hs2];show(if j=z6 s.tick then _ else _)=_;rw[hk,if_neg h]
    obtain⟨o,ho⟩ :∃o,zQ x s=o:=⟨_,rfl⟩
    have hol:o.length≤1024:=by have h1:=tY x s;rw[ho]at h1;have:=hx.N2;omega
    obtain⟨sn2,hsn2⟩ :∃sn2,snN sn a.ins o=sn2:=⟨_,rfl⟩
    have hsnk :∀j,sn2 (j+1)=sn j:=fun j=>by rw[←hsn2];rfl
    have hstp:=Step_ok x s a.ins a.rws hx hinv he (by omega) (by omega)
    have hrst:=(rStep_ok x s sn a.ins a.rws hx hinv hsn he (by omega))
    rw[hs2,hk,hS2,ht2,ho]at hstp
    rw[hs2,ho,hsn2]at hrst
    have hact:actS x a (s,sn)=(s2,sn2):=by unfold actS;rw[if_neg (by rw[hcp];decide),if_pos he,hs2,ho,hsn2]
    rw[hact]at tail
    obtain⟨sz,hsz⟩ :∃sz,sn2 0=sz:=⟨_,rfl⟩
    rw[hsz]at hrst
    refine Run.pI hstp (ent _ _ Try.func27 (by kernel_rfl) rfl) rfl rfl rfl rfl rfl rfl rfl [.ptr 6 0,.opq 77,.opq 78] rfl nmL rfl (fun q hq=>nmL_lt hq) _ rfl nmL_inj rfl (lM_in x s) rfl
     (by repeat first|exact trivial|refine⟨⟨_,rfl,Conv.refl _⟩,?_⟩|refine⟨⟨_,rfl,Conv.map⟩,?_⟩|refine⟨⟨_,rfl,Conv.row (by decide) rfl⟩,?_⟩|refine⟨⟨_,rfl,by rw[ofx (o:=.row 2 x.n.N.length (s.st.flatMap Ste.cells) 139) (qQ _ _)];exact Conv.refl _⟩,?_⟩|refine⟨⟨_,rfl,by rw[ofx (o:=.row 4 x.pl.length (s.m.flatMap Mrk.cells) 84) (qF _ _)];exact Conv.refl _⟩,?_⟩) (fun q hq=>by simp at hq;rcases hq with rfl|rfl|rfl<;>simp[lM,stepM])
     (.tup [.opq 81,ii 0]) [(80,.kmap false true (qA S2)),(81,.row 1 o.length (o.map fun x=>ii x) 3),(6,(SObj.cells (qH (ii s2.tick) x.n.inp (fun j=>.mp (if j=k then 26 else 8+j)) (.mp 7)) 96).ren (shR nmL 26 80)),(9,.row 2 x.n.N.length (s2.st.flatMap Ste.cells) 139),(12,.row 4 x.pl.length (s2.m.flatMap Mrk.cells) 84)] ((79,.cells [.v (.int .u8 a.what),.opq 77,.opq 78] 104)::(77,.rwin 1 a.ins.length (qB a.ins))::(78,.rwin 1 a.rws.length (qB a.rws))::(lnM s++(lnC x++(agL x acts++(rfH x s++(rfS sn++(rfB x s++rfC x))))))) 82 rfl rfl ⟨⟨26,_,rfl,rfl,rfl,rfl⟩,⟨27,_,rfl,rfl,(ofx (o:=.row _ _ (List.map _ _) _) (qK _ _)).symm,rfl⟩,⟨0,_,rfl,rfl,rfl,rfl⟩,⟨3,_,rfl,rfl,(ofx (o:=.row 2 x.n.N.length (s2.st.flatMap Ste.cells) 139) (qQ _ _)).symm,rfl⟩,⟨6,_,rfl,rfl,(ofx (o:=.row 4 x.pl.length (s2.m.flatMap Mrk.cells) 84) (qF _ _)).symm,rfl⟩,trivial⟩ rfl rfl ?_
    refine Run.W1 (hc _) ?_
    conv=>whnf
    refine Run.pI hrst (ent _ _ Try.func39 (by kernel_rfl) rfl) rfl rfl rfl rfl rfl rfl rfl [.ptr 40 0,.opq 77,.opq 78] rfl nmR rfl (fun q hq=>nmR_lt hq (by decide)) _ rfl nmR_inj rfl (rM_in hR s sn (by omega) ⟨⟨by omega,Os.h _⟩,⟨by omega,Os.h _⟩,trivial⟩) rfl
     (by repeat first|exact trivial|refine⟨⟨_,rfl,Conv.refl _⟩,?_⟩|refine⟨⟨_,rfl,Conv.row (by decide) (wV _)⟩,?_⟩|refine⟨⟨_,rfl,Conv.row (by decide) rfl⟩,?_⟩|refine⟨⟨_,rfl,by rw[ofx (o:=.row 2 x.n.N.length (s.st.flatMap Ste.cells) 139) (qQ _ _)];exact Conv.refl _⟩,?_⟩|refine⟨⟨_,rfl,by rw[ofx (o:=.row 4 x.n.S.length (s.m.flatMap Mrk.cells) 141) (qF _ _)];exact Conv.refl _⟩,?_⟩|refine⟨⟨_,rfl,by rw[z5 (b:=25) (b':=61) fun j hj=>nmR_tab hj hR];exact Conv.refl _⟩,?_⟩) (fun q hq=>by simp at hq;rcases hq with rfl|rfl|rfl|rfl|rfl<;>simp[rM])
     (.tup [.opq 82,ii 0]) ((82,.row 1 o.length (o.map fun x=>ii x) 3)::(83,.row 1 sz.length (sz.map fun x=>ii x) 3)::(84,.row 1 16 [.opq 83,.opq 45,.opq 46,.opq 47,.opq 48,.opq 49,.opq 50,.opq 51,.opq 52,.opq 53,.opq 54,.opq 55,.opq 56,.opq 57,.opq 58,.opq 59] 27)::(40,.cells [.opq 0,ii x.n.inp,.opq 1,.opq 32,.opq 3,.opq 41,.opq 42,ii s2.tick,.opq 43,.opq 84] 108)::rfB x s2) ((80,.kmap false true (qA S2))::(81,.row 1 o.length (o.map fun x=>ii x) 3)::(6,(SObj.cells (qH (ii s2.tick) x.n.inp (fun j=>.mp (if j=k then 26 else 8+j)) (.mp 7)) 96).ren (shR nmL 26 80))::(lnT x s2++(lnM s++(lnC x++(agL x acts++(rfS sn++rfC x)))))) 85 rfl rfl ⟨⟨43,_,rfl,rfl,(ofx (o:=.row _ _ (List.map _ _) _) (qK _ _)).symm,rfl⟩,⟨44,_,rfl,rfl,(ofx (o:=.row _ _ (List.map _ _) _) (qK _ _)).symm,rfl⟩,⟨45,_,rfl,rfl,rfl,rfl⟩,⟨0,_,rfl,rfl,rfl,rfl⟩,⟨6,_,rfl,rfl,(ofx (o:=.row 4 x.n.S.length (s2.m.flatMap Mrk.cells) 141) (qF _ _)).symm,rfl⟩,⟨7,_,rfl,rfl,(z5 (b:=25) (b':=61) fun j hj=>by rw[v8 (show 25+j<43 by omega)];exact nmR_tab hj hR).symm,rfl⟩,⟨3,_,rfl,rfl,(ofx (o:=.row 2 x.n.N.length (s2.st.flatMap Ste.cells) 139) (qQ _ _)).symm,rfl⟩,trivial⟩ rfl rfl ?_
    refine Run.W1 (hc _) ?_
    conv=>whnf
    refine Run.pD (g:=31) (vs:=[.opq 81,.opq 82]) (caps:=[]) (.v (.bool true)) (fun ρ w1 hW=>by
     have:=equal_run _ _ o o w1 (by have:=hW.rowsAtR (i:=81) rfl (by decide);rw[show SV.concs ρ (o.map fun x=>ii x)=qB o from concs_i ρ o]at this;exact this) (by have:=hW.rowsAtR (i:=82) rfl (by decide);rw[show SV.concs ρ (o.map fun x=>ii x)=qB o from concs_i ρ o]at this;exact this) (by omega)
     rw[decide_eq_true rfl]at this
     exact this) (ent _ _ Try.func31 (by kernel_rfl) rfl) rfl rfl rfl rfl rfl rfl rfl trivial ?_
    refine Run.W1 (hc _) ?_
    conv=>whnf
    refine Run.weak (M':=(80,.kmap false false (qA S2))::(83,.row 1 sz.length (sz.map fun x=>ii x) 3)::(84,.row 1 16 [.opq 83,.opq 45,.opq 46,.opq 47,.opq 48,.opq 49,.opq 50,.opq 51,.opq 52,.opq 53,.opq 54,.opq 55,.opq 56,.opq 57,.opq 58,.opq 59] 27)::(40,.cells [.opq 0,ii x.n.inp,.opq 1,.opq 32,.opq 3,.opq 41,.opq 42,ii s2.tick,.opq 43,.opq 84] 108)::(6,(SObj.cells (qH (ii s2.tick) x.n.inp (fun j=>.mp (if j=k then 26 else 8+j)) (.mp 7)) 96).ren (shR nmL 26 80))::(lnM s++(rfS sn++kpL x acts s2))) (by refine⟨⟨_,rfl,.inr ⟨_,_,rfl,rfl⟩⟩,?_⟩;repeat first|exact trivial|refine⟨⟨_,rfl,.inl rfl⟩,?_⟩) ?_
    refine Run.trimKQ2 (n':=77) (T':=[(3,.opq 4),(8,.v (.bool false)),(9,.ptr 6 0),(11,.ptr 40 0),(13,ii ((i:Nat):Int))]) (Ch:=(lnS x s2++lnM s2)++(rfH x s2++rfS sn2)) (Kp:=kpL x acts s2) (rq [(44,84),(84,44),(45,83),(46,45),(47,46),(48,47),(49,48),(50,49),(51,50),(52,51),(53,52),(54,53),(55,54),(56,55),(57,56),(58,57),(59,58),(60,59),(83,60),(40,40),(0,0),(1,1),(3,3),(32,32),(41,41),(42,42),(43,43),(14+k,80),(80,14+k)]) ?_ ?_ ?_ rfl ?_ ?_ (fun i=>(i<5∨i=32)∨(7≤i∧i<14)∨(41≤i∧i≤43)∨(61≤i∧i<77)) ?_ rfl (kpL_in hR acts s2 (fun i hi=>.inl hi) (fun i hi=>.inr (.inl hi)) (fun i hi=>.inr (.inr hi))) (fun p hp=>by cases hp)
    ·exact tail
    ·have inv :∀i,i<77→rq [(84,44),(44,84),(83,45),(45,46),(46,47),(47,48),(48,49),(49,50),(50,51),(51,52),(52,53),(53,54),(54,55),(55,56),(56,57),(57,58),(58,59),(59,60),(60,83),(40,40),(0,0),(1,1),(3,3),(32,32),(41,41),(42,42),(43,43),(14+k,80),(80,14+k)] (rq [(44,84),(84,44),(45,83),(46,45),(47,46),(48,47),(49,48),(50,49),(51,50),(52,51),(53,52),(54,53),(55,54),(56,55),(57,56),(58,57),(59,58),(60,59),(83,60),(40,40),(0,0),(1,1),(3,3),(32,32),(41,41),(42,42),(43,43),(14+k,80),(80,14+k)] i)=i:=by rcases lt16 hk16 with rfl|rfl|rfl|rfl|rfl|rfl|rfl|rfl|rfl|rfl|rfl|rfl|rfl|rfl|rfl|rfl<;>decide
     exact fun i hi j hj hne he'=>hne (by rw[←inv i hi,he',inv j hj])
    ·rcases lt16 hk16 with rfl|rfl|rfl|rfl|rfl|rfl|rfl|rfl|rfl|rfl|rfl|rfl|rfl|rfl|rfl|rfl<;>rfl
    ·refine zM ?_ ?_
     ·rcases lt16 hk16 with rfl|rfl|rfl|rfl|rfl|rfl|rfl|rfl|rfl|rfl|rfl|rfl|rfl|rfl|rfl|rfl<;>(repeat first|exact trivial|refine⟨by rw[hssm];rfl,?_⟩|refine⟨rfl,?_⟩)
     ·refine⟨rfl,rfl,by rw[hsz];exact congrArg some (ofx (o:=.row _ _ (List.map _ _) _) (qK _ _)).symm,?_⟩
      repeat first|exact trivial|refine⟨by rw[hsnk];exact congrArg some (ofx (o:=.row _ _ (List.map _ _) _) (qK _ _)).symm,?_⟩
    ·exact zM (zM (lnS_in (S:=(· < 77)) (fun i hi=>by omega) x s2) (lnM_in (S:=(· < 77)) (fun i hi=>by omega) s2)) (zM (rfH_in (S:=(· < 77)) (fun i hi=>by omega) x s2) (rfS_in (S:=(· < 77)) (fun i hi=>hi.2) sn2))
    ·have fix :∀i,i<77→(i<5∨i=32)∨(7≤i∧i<14)∨(41≤i∧i≤43)∨(61≤i∧i<77)→rq [(44,84),(84,44),(45,83),(46,45),(47,46),(48,47),(49,48),(50,49),(51,50),(52,51),(53,52),(54,53),(55,54),(56,55),(57,56),(58,57),(59,58),(60,59),(83,60),(40,40),(0,0),(1,1),(3,3),(32,32),(41,41),(42,42),(43,43),(14+k,80),(80,14+k)] i=i:=by rcases lt16 hk16 with rfl|rfl|rfl|rfl|rfl|rfl|rfl|rfl|rfl|rfl|rfl|rfl|rfl|rfl|rfl|rfl<;>decide
     exact fun i hi=>⟨fix i (by omega) hi,by omega⟩
   unfold isCopy at hcp
   refine⟨by decide,?_⟩
   conv=>whnf
   rw[hcp]
   conv=>whnf
   change isCopy a=true at hcp
   have hact:actS x a (s,sn)=(s,sn):=by unfold actS;rw[if_pos hcp]
   rw[hact]at tail
   refine Run.pI (Copy_spec s.tick x.n.inp x.n.N x.pl s.st s.m hx.N2 hx.N1 (by have:=hx.S1;omega)) (ent _ _ Try.func30 (by kernel_rfl) rfl) rfl rfl rfl rfl rfl rfl rfl [.ptr 6 0] rfl (6+·) rfl (fun q hq=>by show 6+q<80;omega) _ rfl (fun q _ j _ hne h=>hne (Nat.add_left_cancel h)) rfl
    ⟨⟨by omega,qC _ rfl⟩,⟨by omega,Os.h _⟩,⟨by omega,Os.h _⟩,trivial⟩ rfl ⟨⟨_,rfl,Conv.refl _⟩,⟨_,rfl,Conv.row (by decide) (steV _)⟩,⟨_,rfl,Conv.row (by decide) (xU _)⟩,trivial⟩ (fun q hq=>by simp at hq;subst hq;simp)
    (.ptr 80 0) ((80,.cells [ii s.tick,.opq 7,ii x.n.inp,.opq 8,.opq 81,.mp 14,.mp 15,.mp 16,.mp 17,.mp 18,.mp 19,.mp 20,.mp 21,.mp 22,.mp 23,.mp 24,.mp 25,.mp 26,.mp 27,.mp 28,.mp 29,.opq 10,.opq 11,.opq 82,.mp 13] 96)::(81,.row 2 x.n.N.length (s.st.flatMap Ste.cells) 139)::(82,.row 4 x.pl.length (s.m.flatMap Mrk.cells) 84)::lnS x s) (lnT x s++(lnM s++(lnC x++(rfH x s++(rfS sn++(agL x acts++(rfB x s++rfC x))))))) 83 rfl rfl ⟨⟨24,_,rfl,rfl,rfl,rfl⟩,⟨25,_,rfl,rfl,(ofx (o:=.row 2 x.n.N.length (s.st.flatMap Ste.cells) 139) (qQ _ _)).symm,rfl⟩,⟨26,_,rfl,rfl,(ofx (o:=.row 4 x.pl.length (s.m.flatMap Mrk.cells) 84) (qF _ _)).symm,rfl⟩,⟨0,_,rfl,rfl,rfl,rfl⟩,trivial⟩ rfl rfl ?_
   refine Run.W1 (hc _) ?_
   conv=>whnf
   by_cases he:jX x s [] []=0
   ·obtain⟨M1,hsp⟩:=stepN_ok x s hx hinv he
    refine Run.pI hsp (ent _ _ Try.func27 (by kernel_rfl) rfl) rfl rfl rfl rfl rfl rfl rfl [.ptr 6 0,nq,nq] rfl (6+·) rfl (fun q hq=>by show 6+q<83;omega) _ rfl (fun q _ j _ hne h=>hne (Nat.add_left_cancel h)) rfl (lM_in0 x s) rfl
     (by repeat first|exact trivial|refine⟨⟨_,rfl,Conv.refl _⟩,?_⟩|refine⟨⟨_,rfl,Conv.map⟩,?_⟩|refine⟨⟨_,rfl,Conv.row (by decide) rfl⟩,?_⟩|refine⟨⟨_,rfl,by rw[ofx (o:=.row 2 x.n.N.length (s.st.flatMap Ste.cells) 139) (qQ _ _)];exact Conv.refl _⟩,?_⟩|refine⟨⟨_,rfl,by rw[ofx (o:=.row 4 x.pl.length (s.m.flatMap Mrk.cells) 84) (qF _ _)];exact Conv.refl _⟩,?_⟩) (fun q hq=>by simp at hq;rcases hq with rfl|rfl|rfl<;>simp[lM,stepM])
     (.tup [.opq 84,ii 0]) [] ((80,.cells [ii s.tick,.opq 7,ii x.n.inp,.opq 8,.opq 81,.mp 14,.mp 15,.mp 16,.mp 17,.mp 18,.mp 19,.mp 20,.mp 21,.mp 22,.mp 23,.mp 24,.mp 25,.mp 26,.mp 27,.mp 28,.mp 29,.opq 10,.opq 11,.opq 82,.mp 13] 96)::(81,.row 2 x.n.N.length (s.st.flatMap Ste.cells) 139)::(82,.row 4 x.pl.length (s.m.flatMap Mrk.cells) 84)::(lnM s++(lnC x++(rfH x s++(rfS sn++(agL x acts++(rfB x s++rfC x))))))) 85 rfl rfl trivial rfl rfl ?_
    refine Run.W1 (hc _) ?_
    conv=>whnf
    refine Run.trimKQ2 (n':=77) (T':=[(3,.opq 4),(8,.v (.bool false)),(9,.ptr 6 0),(11,.ptr 40 0),(13,ii ((i:Nat):Int))]) (Ch:=lnS x s++lnT x s) (Kp:=(lnM s++(lnC x++(rfH x s++(rfS sn++(agL x acts++(rfB x s++rfC x))))))) (rq [(6,80),(80,6),(9,81),(81,9),(12,82),(82,12)]) ?_ ?_ rfl rfl ?_ ?_ (fun i=>i<77∧i≠6∧i≠9∧i≠12) ?_ rfl ?_ (fun p hp=>by cases hp)
    ·exact Run.pN tail rfl rfl rfl (tK hR acts _ (Nat.le_refl _)) (hL77 _)
    ·have inv :∀i,i<77→rq [(6,80),(80,6),(9,81),(81,9),(12,82),(82,12)] (rq [(6,80),(80,6),(9,81),(81,9),(12,82),(82,12)] i)=i:=by decide
     exact fun i hi j hj hne he'=>hne (by rw[←inv i hi,he',inv j hj])
    ·exact⟨rfl,congrArg some (ofx (o:=.row 2 x.n.N.length (s.st.flatMap Ste.cells) 139) (qQ _ _)).symm,congrArg some (ofx (o:=.row 4 x.pl.length (s.m.flatMap Mrk.cells) 84) (qF _ _)).symm,trivial⟩
    ·exact zM (lnS_in (S:=(· < 77)) (fun i hi=>by omega) x s) (lnT_in (S:=(· < 77)) (fun i hi=>by omega) x s)
    ·have fix :∀i,i<77→i<77∧i≠6∧i≠9∧i≠12→rq [(6,80),(80,6),(9,81),(81,9),(12,82),(82,12)] i=i:=by decide
     exact fun i hi=>⟨fix i hi.1 hi,hi.1⟩
    ·exact zM (lnM_in (S:=fun i=>i<77∧i≠6∧i≠9∧i≠12) (fun i hi=>by omega) s) (zM (lnC_in (S:=fun i=>i<77∧i≠6∧i≠9∧i≠12) (fun i hi=>by omega) x) (zM (rfH_in (S:=fun i=>i<77∧i≠6∧i≠9∧i≠12) (fun i hi=>by omega) x s) (zM (rfS_in (S:=fun i=>i<77∧i≠6∧i≠9∧i≠12) (fun i hi=>by omega) sn) (zM (agL_in (S:=fun i=>i<77∧i≠6∧i≠9∧i≠12) (fun i hi=>by omega) x acts) (zM (rfB_in (S:=fun i=>i<77∧i≠6∧i≠9∧i≠12) x hR (fun i hi=>by omega) s) (rfC_in (S:=fun i=>i<77∧i≠6∧i≠9∧i≠12) (fun i hi=>by omega) x))))))
   obtain⟨e,hee⟩ :∃e,jX x s [] []=e:=⟨_,rfl⟩
   rw[hee]at he
   refine Run.pI (stepN_bad x s e hx hee he) (ent _ _ Try.func27 (by kernel_rfl) rfl) rfl rfl rfl rfl rfl rfl rfl [.ptr 6 0,nq,nq] rfl (6+·) rfl (fun q hq=>by show 6+q<83;omega) _ rfl (fun q _ j _ hne h=>hne (Nat.add_left_cancel h)) rfl (lM_in0 x s) rfl
    (by repeat first|exact trivial|refine⟨⟨_,rfl,Conv.refl _⟩,?_⟩|refine⟨⟨_,rfl,Conv.map⟩,?_⟩|refine⟨⟨_,rfl,Conv.row (by decide) rfl⟩,?_⟩|refine⟨⟨_,rfl,by rw[ofx (o:=.row 2 x.n.N.length (s.st.flatMap Ste.cells) 139) (qQ _ _)];exact Conv.refl _⟩,?_⟩|refine⟨⟨_,rfl,by rw[ofx (o:=.row 4 x.pl.length (s.m.flatMap Mrk.cells) 84) (qF _ _)];exact Conv.refl _⟩,?_⟩) (fun q hq=>by simp at hq;rcases hq with rfl|rfl|rfl<;>simp[lM,stepM])
    (.tup [nq,ii e]) [] ((80,.cells [ii s.tick,.opq 7,ii x.n.inp,.opq 8,.opq 81,.mp 14,.mp 15,.mp 16,.mp 17,.mp 18,.mp 19,.mp 20,.mp 21,.mp 22,.mp 23,.mp 24,.mp 25,.mp 26,.mp 27,.mp 28,.mp 29,.opq 10,.opq 11,.opq 82,.mp 13] 96)::(81,.row 2 x.n.N.length (s.st.flatMap Ste.cells) 139)::(82,.row 4 x.pl.length (s.m.flatMap Mrk.cells) 84)::(lnM s++(lnC x++(rfH x s++(rfS sn++(agL x acts++(rfB x s++rfC x))))))) 83 rfl rfl trivial rfl rfl ?_
   refine Run.W1 (hc _) ?_
   conv=>whnf
   refine Run.trimKQ2 (n':=77) (T':=[(3,.opq 4),(8,.v (.bool false)),(9,.ptr 6 0),(11,.ptr 40 0),(13,ii ((i:Nat):Int))]) (Ch:=lnS x s++lnT x s) (Kp:=(lnM s++(lnC x++(rfH x s++(rfS sn++(agL x acts++(rfB x s++rfC x))))))) (rq [(6,80),(80,6),(9,81),(81,9),(12,82),(82,12)]) ?_ ?_ rfl rfl ?_ ?_ (fun i=>i<77∧i≠6∧i≠9∧i≠12) ?_ rfl ?_ (fun p hp=>by cases hp)
   ·exact Run.pN tail rfl rfl rfl (tK hR acts _ (Nat.le_refl _)) (hL77 _)
   ·have inv :∀i,i<77→rq [(6,80),(80,6),(9,81),(81,9),(12,82),(82,12)] (rq [(6,80),(80,6),(9,81),(81,9),(12,82),(82,12)] i)=i:=by decide
    exact fun i hi j hj hne he'=>hne (by rw[←inv i hi,he',inv j hj])
   ·exact⟨rfl,congrArg some (ofx (o:=.row 2 x.n.N.length (s.st.flatMap Ste.cells) 139) (qQ _ _)).symm,congrArg some (ofx (o:=.row 4 x.pl.length (s.m.flatMap Mrk.cells) 84) (qF _ _)).symm,trivial⟩
   ·exact zM (lnS_in (S:=(· < 77)) (fun i hi=>by omega) x s) (lnT_in (S:=(· < 77)) (fun i hi=>by omega) x s)
   ·have fix :∀i,i<77→i<77∧i≠6∧i≠9∧i≠12→rq [(6,80),(80,6),(9,81),(81,9),(12,82),(82,12)] i=i:=by decide
    exact fun i hi=>⟨fix i hi.1 hi,hi.1⟩
   ·exact zM (lnM_in (S:=fun i=>i<77∧i≠6∧i≠9∧i≠12) (fun i hi=>by omega) s) (zM (lnC_in (S:=fun i=>i<77∧i≠6∧i≠9∧i≠12) (fun i hi=>by omega) x) (zM (rfH_in (S:=fun i=>i<77∧i≠6∧i≠9∧i≠12) (fun i hi=>by omega) x s) (zM (rfS_in (S:=fun i=>i<77∧i≠6∧i≠9∧i≠12) (fun i hi=>by omega) sn) (zM (agL_in (S:=fun i=>i<77∧i≠6∧i≠9∧i≠12) (fun i hi=>by omega) x acts) (zM (rfB_in (S:=fun i=>i<77∧i≠6∧i≠9∧i≠12) x hR (fun i hi=>by omega) s) (rfC_in (S:=fun i=>i<77∧i≠6∧i≠9∧i≠12) (fun i hi=>by omega) x))))))
  ·obtain⟨p,hp⟩ :∃p,actS x a (s,sn)=p:=⟨_,rfl⟩
   rw[hp]at hJ2 ih ⊢
   refine Run.draw0 (hc _) fun l0 hl0=> ?_
   refine Run.drawP (hc _) 0 10 hl0 (by omega) ?_
   conv=>whnf
   rw[if_pos (show(0:Int)<(x.n.N.length:Int)by have:=hx.N1;omega),show(p.1.tick != p.1.tick)=false by simp]
   conv=>whnf
   refine⟨by kernel_rfl,fun l1 hl1=> ?_⟩
   obtain⟨l2,rfl,hl2⟩:=hl1.one (by decide) (by kernel_rfl) (by kernel_rfl)
   refine Run.pI (sameMarks_spec p.1.tick x.n.inp x.n.N x.n.S p.1.st x.pl p.1.m hpl2 hJ2.inv.lm hx.S1 hx.N2 hx.N1) (ent _ _ Try.func40 (by kernel_rfl) rfl) rfl rfl rfl rfl rfl rfl rfl [.ptr 6 0,.ptr 40 0] rfl (fun q=>if q<24 then 6+q else rq [(24,40),(25,0),(26,1),(27,43),(28,32),(29,3),(30,41),(31,42),(32,44)] q) rfl (fun q hq=>by have inv :∀q,q<65→(fun q=>if q<24 then 6+q else rq [(24,40),(25,0),(26,1),(27,43),(28,32),(29,3),(30,41),(31,42),(32,44)] q) q<90:=(by decide);exact inv q hq) _ rfl (fun q hq j hj hne=>by have inj :∀i∈[0,1,2,3,5,6,24,25,26,29,30],∀j∈[0,1,2,3,5,6,24,25,26,29,30],i≠j→(fun q=>if q<24 then 6+q else rq [(24,40),(25,0),(26,1),(27,43),(28,32),(29,3),(30,41),(31,42),(32,44)] q) i≠(fun q=>if q<24 then 6+q else rq [(24,40),(25,0),(26,1),(27,43),(28,32),(29,3),(30,41),(31,42),(32,44)] q) j:=(by decide);exact inj q hq j hj hne) rfl (smM_in _ _ _ _ _ _ _ (Nat.le_refl _)) rfl
    (by repeat first|exact trivial|refine⟨⟨_,rfl,Conv.refl _⟩,?_⟩|refine⟨⟨_,rfl,Conv.row (by decide) rfl⟩,?_⟩|refine⟨⟨_,rfl,Conv.row (by decide) (steV _)⟩,?_⟩|refine⟨⟨_,rfl,by rw[hpl2];exact Conv.row (by decide) (xU _)⟩,?_⟩|refine⟨⟨_,rfl,Conv.row (by decide) (xU _)⟩,?_⟩) (fun q hq=>by simp at hq;rcases hq with rfl|rfl<;>simp)
    (.v (.bool true)) [(6,.cells [ii p.1.tick,.opq 7,ii x.n.inp,.opq 8,.opq 9,.mp 14,.mp 15,.mp 16,.mp 17,.mp 18,.mp 19,.mp 20,.mp 21,.mp 22,.mp 23,.mp 24,.mp 25,.mp 26,.mp 27,.mp 28,.mp 29,.opq 10,.opq 11,.opq 12,.mp 13] 96),(40,.cells [.opq 0,ii x.n.inp,.opq 1,.opq 32,.opq 3,.opq 41,.opq 42,ii p.1.tick,.opq 43,.opq 44] 108)] (lnM p.1++((44,.row 1 16 [.opq 45,.opq 46,.opq 47,.opq 48,.opq 49,.opq 50,.opq 51,.opq 52,.opq 53,.opq 54,.opq 55,.opq 56,.opq 57,.opq 58,.opq 59,.opq 60] 27)::(rfS p.2++kpL x acts p.1))) 90 rfl rfl ⟨⟨0,_,rfl,rfl,rfl,rfl⟩,⟨24,_,rfl,rfl,rfl,rfl⟩,trivial⟩ rfl rfl ?_
   refine Run.drawP (hc _) 11 13 hl2 (by omega) ?_
   conv=>whnf
   refine⟨by kernel_rfl,fun l3 hl3=> ?_⟩
   rw[hl3.rest (by decide) (by kernel_rfl) (by kernel_rfl)]
   refine Run.W1 (hc _) ?_
   conv=>whnf
   exact Run.pN (ih hJ2) (by rw[hsu];rfl) rfl rfl (tK hR acts p (Nat.le_refl _)) (hL77 _)
 ·intro hJ
  refine Run.W1 (hc _) ?_
  conv=>whnf
  rw[decide_eq_false (show ¬((acts.length:Nat):Int)<(acts.length:Int)by omega)]
  conv=>whnf
  exact⟨fun ρ w' hW _=>⟨rfl,hW.toExt⟩⟩
end Go.Proofs.Ytnnlpdgnlccbjaa
