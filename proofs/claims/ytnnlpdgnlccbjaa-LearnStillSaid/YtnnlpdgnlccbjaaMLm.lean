/-
  Laws of the executor, and walks of functions (part 13). The conditions stand with each law.
-/
import Derived.Test.YtnnlpdgnlccbjaaMLl
namespace Go.Proofs.Ytnnlpdgnlccbjaa
open Go.Sx
set_option maxRecDepth 100000
set_option maxHeartbeats 8000000
theorem nRun_ok (n:Net)(l:List Evt)(K:Nat)(hp:zO n l (K:Int) 10000=0)(hK:K*n.N.length≤65536) :
  BSpec Try.prog 24 [.agg [.opq 0,ii n.inp,.opq 1],.opq 2,ii (K:Int)] [(0,.rwin 8 n.N.length (n.N.flatMap Prm.vals)),(1,.rwin 4 n.S.length (n.S.flatMap Syn.vals)),(2,.rwin 2 l.length (l.flatMap Evt.vals))] 3 [] (.tup [.opq 3,ii 0])
   [(3,.row 2 (nO n l K).length ((nO n l K).flatMap Evt.cells) 62)] 4:=by
 obtain⟨hck,hK0,hK1,hll⟩:=prep_facts hp
 have hok:=nS_ok hck hll
 have hx:=netOK_net hck
 have hlN:n.N.length≤1024:=hx.N2
 have hlS:n.S.length≤8192:=hx.S1
 have hc :∀w L' rd,(∀p,rd=some p→p∈L')→Cx.ok ⟨Try.prog,tab,[(2000,fun _ _=>none)],24,Try.f24,[],w,L',rd⟩:=fun w L' rd h=>⟨qI,⟨trivial,trivial⟩,Try.func24,mixed,h⟩
 have hc2 :∀w L' rd,(∀p,rd=some p→p∈L')→Cx.ok ⟨Try.prog,tab,[(2000,fun _ _=>none)],61,Try.f61,[],w,L',rd⟩:=fun w L' rd h=>⟨qI,⟨trivial,trivial⟩,Try.func61,mixed,h⟩
 refine BSpec.start (tab:=tab) (pf:=[(2000,fun _ _=>none)]) (cuts:=[]) Try.func24 rfl ⟨⟨(show 0<3 by decide),trivial,ltb rfl,trivial⟩,(show 2<3 by decide),trivial,trivial⟩ rfl fun w L0 plp hL _ hcov=> ?_
 obtain rfl:L0=[]:=List.eq_nil_iff_forall_not_mem.2 fun p hp=>by simpa using hL p hp
 refine Run.s0 (hc w [] none nofun) 100 _ ?_
 generalize hRR:SpecR _ _ _ _ _ _=RR
 conv=>whnf
 refine Run.rB (g:=58) (vs:=[.agg [.opq 0,ii n.inp,.opq 1],.opq 2,ii (K:Int),ii 10000]) (caps:=[]) (ii 0) (fun ρ w1 hW=>by
  have:=t5 ((SV.opq 0).conc ρ) ((SV.opq 1).conc ρ) n ((SV.opq 2).conc ρ) l (K:Int) 10000 w1 ⟨hW.rowsAt rfl,hW.rowsAt rfl⟩ (hW.rowsAt rfl)
  rw[hp]at this
  exact this) (ent _ _ Try.func58 (by kernel_rfl) rfl) rfl rfl rfl rfl rfl rfl rfl trivial ?_
 refine Run.W1 (hc w [] none nofun) ?_
 conv=>whnf
 refine Run.callW (g:=59) (vs:=[.agg [.opq 0,ii n.inp,.opq 1]]) (caps:=[]) (fun _ w1=>SimAt w1 n.inp n.N n.S) (fun ρ w1 hW=>nstart_run ((SV.opq 0).conc ρ) ((SV.opq 1).conc ρ) n w1 ⟨hW.rowsAt rfl,hW.rowsAt rfl⟩ hlS hlN) (ent _ _ Try.func59 (by kernel_rfl) rfl) rfl rfl rfl rfl rfl rfl rfl (fun ρ w0 en w1 hW hQ=> ?_)
 obtain⟨ρ1,L1,hen,hE,hL1,hW1⟩:=hQ
 obtain⟨hWj,hagj⟩:=hW.joinW hE hW1 (fun p hp=>(hL1 p hp).2) [(5,.cells [.opq 6,ii n.inp,.opq 25,.mp 7,ii 0,.opq 8,.opq 9,.opq 10,.opq 11,.opq 12,.opq 13,.opq 14,.opq 15,.opq 16,.opq 17,.opq 18,.opq 19,.opq 20,.opq 21,.opq 22,.opq 23,.opq 24] 170),(6,.rwin 8 n.N.length (n.N.flatMap Prm.vals)),(7,swS n.S),(8,.row 2 n.N.length ((nS n l 0).1.flatMap Ste.cells) 139),(9,.row 1 n.N.length (((nS n l 0).2 0).map fun x=>ii x) 3),(10,.row 1 n.N.length (((nS n l 0).2 1).map fun x=>ii x) 3),(11,.row 1 n.N.length (((nS n l 0).2 2).map fun x=>ii x) 3),(12,.row 1 n.N.length (((nS n l 0).2 3).map fun x=>ii x) 3),(13,.row 1 n.N.length (((nS n l 0).2 4).map fun x=>ii x) 3),(14,.row 1 n.N.length (((nS n l 0).2 5).map fun x=>ii x) 3),(15,.row 1 n.N.length (((nS n l 0).2 6).map fun x=>ii x) 3),(16,.row 1 n.N.length (((nS n l 0).2 7).map fun x=>ii x) 3),(17,.row 1 n.N.length (((nS n l 0).2 8).map fun x=>ii x) 3),(18,.row 1 n.N.length (((nS n l 0).2 9).map fun x=>ii x) 3),(19,.row 1 n.N.length (((nS n l 0).2 10).map fun x=>ii x) 3),(20,.row 1 n.N.length (((nS n l 0).2 11).map fun x=>ii x) 3),(21,.row 1 n.N.length (((nS n l 0).2 12).map fun x=>ii x) 3),(22,.row 1 n.N.length (((nS n l 0).2 13).map fun x=>ii x) 3),(23,.row 1 n.N.length (((nS n l 0).2 14).map fun x=>ii x) 3),(24,.row 1 n.N.length (((nS n l 0).2 15).map fun x=>ii x) 3),(2,.rwin 2 l.length (l.flatMap Evt.vals)),(3,.pin plp)] (AllP.mem ⟨.inr ⟨0,_,rfl,rfl,rfl⟩,.inr ⟨1,_,rfl,rfl,rfl⟩,.inr ⟨2,_,rfl,rfl,rfl⟩,.inr ⟨3,_,rfl,rfl,(ofx (o:=.row 2 n.N.length ((nS n l 0).1.flatMap Ste.cells) 139) (qS _ _)).symm⟩,.inr ⟨4,_,rfl,rfl,(ofx (o:=.row 1 n.N.length (((nS n l 0).2 0).map fun x=>ii x) 3) (qB _ _)).symm⟩,.inr ⟨5,_,rfl,rfl,(ofx (o:=.row 1 n.N.length (((nS n l 0).2 1).map fun x=>ii x) 3) (qB _ _)).symm⟩,.inr ⟨6,_,rfl,rfl,(ofx (o:=.row 1 n.N.length (((nS n l 0).2 2).map fun x=>ii x) 3) (qB _ _)).symm⟩,.inr ⟨7,_,rfl,rfl,(ofx (o:=.row 1 n.N.length (((nS n l 0).2 3).map fun x=>ii x) 3) (qB _ _)).symm⟩,.inr ⟨8,_,rfl,rfl,(ofx (o:=.row 1 n.N.length (((nS n l 0).2 4).map fun x=>ii x) 3) (qB _ _)).symm⟩,.inr ⟨9,_,rfl,rfl,(ofx (o:=.row 1 n.N.length (((nS n l 0).2 5).map fun x=>ii x) 3) (qB _ _)).symm⟩,.inr ⟨10,_,rfl,rfl,(ofx (o:=.row 1 n.N.length (((nS n l 0).2 6).map fun x=>ii x) 3) (qB _ _)).symm⟩,.inr ⟨11,_,rfl,rfl,(ofx (o:=.row 1 n.N.length (((nS n l 0).2 7).map fun x=>ii x) 3) (qB _ _)).symm⟩,.inr ⟨12,_,rfl,rfl,(ofx (o:=.row 1 n.N.length (((nS n l 0).2 8).map fun x=>ii x) 3) (qB _ _)).symm⟩,.inr ⟨13,_,rfl,rfl,(ofx (o:=.row 1 n.N.length (((nS n l 0).2 9).map fun x=>ii x) 3) (qB _ _)).symm⟩,.inr ⟨14,_,rfl,rfl,(ofx (o:=.row 1 n.N.length (((nS n l 0).2 10).map fun x=>ii x) 3) (qB _ _)).symm⟩,.inr ⟨15,_,rfl,rfl,(ofx (o:=.row 1 n.N.length (((nS n l 0).2 11).map fun x=>ii x) 3) (qB _ _)).symm⟩,.inr ⟨16,_,rfl,rfl,(ofx (o:=.row 1 n.N.length (((nS n l 0).2 12).map fun x=>ii x) 3) (qB _ _)).symm⟩,.inr ⟨17,_,rfl,rfl,(ofx (o:=.row 1 n.N.length (((nS n l 0).2 13).map fun x=>ii x) 3) (qB _ _)).symm⟩,.inr ⟨18,_,rfl,rfl,(ofx (o:=.row 1 n.N.length (((nS n l 0).2 14).map fun x=>ii x) 3) (qB _ _)).symm⟩,.inr ⟨19,_,rfl,rfl,(ofx (o:=.row 1 n.N.length (((nS n l 0).2 15).map fun x=>ii x) 3) (qB _ _)).symm⟩,.inl ⟨rfl,fun ρ h=>h⟩,.inl ⟨rfl,fun ρ h=>h⟩,trivial⟩)
 have hEE:Ext w w1:=hW.toExt.trans hE
 have hsz:=hW.size
 obtain⟨LL,hLL⟩ :∃LL,L1.map (fun p=>(5+p.1,p.2))=LL:=⟨_,rfl⟩
 have hHL :∀p∈LL,5≤p.1∧p.1<26∧w.heap.size≤p.2:=fun p hp=>by
  rw[←hLL]at hp
  obtain⟨q,hq,rfl⟩:=List.mem_map.1 hp
  obtain⟨h1,h2⟩:=hL1 q hq
  exact⟨by show 5≤5+q.1;omega,by show 5+q.1<26;omega,by show w.heap.size≤q.2;exact Nat.le_trans hsz h2⟩
 rw[hLL]at hWj
 refine⟨.ptr 5 0,[(1,.opq 2),(2,ii (K:Int)),(7,ii 0)],ρ.join 0 5 ρ1,_,26,LL,?_,(show 5<26 by decide),AllP.mem ⟨⟨_,rfl,(zY hagj (.opq 2) (show 2<5 by decide)).symm,(show 2<26 by decide)⟩,⟨_,rfl,rfl,trivial⟩,⟨_,rfl,rfl,trivial⟩,trivial⟩,hWj,?_⟩
 ·rw[hen];simp[SV.conc,Env.join]
 clear hWj hagj hW1 hL1 hW hen hsz
 refine Run.W1 (hc w1 LL none nofun) ?_
 conv=>whnf
 refine Run.nils (T':=[(9,.ptr 5 0),(10,.ptr 26 0),(11,.opq 27),(27,ii (K:Int)),(28,ii 0)]) (M':=[(5,.cells [.opq 6,ii n.inp,.opq 25,.mp 7,ii ((0:Nat):Int),.opq 8,.opq 9,.opq 10,.opq 11,.opq 12,.opq 13,.opq 14,.opq 15,.opq 16,.opq 17,.opq 18,.opq 19,.opq 20,.opq 21,.opq 22,.opq 23,.opq 24] 170),(6,.rwin 8 n.N.length (n.N.flatMap Prm.vals)),(7,swS n.S),(8,.row 2 n.N.length ((nS n l 0).1.flatMap Ste.cells) 139),(9,.row 1 n.N.length (((nS n l 0).2 0).map fun x=>ii x) 3),(10,.row 1 n.N.length (((nS n l 0).2 1).map fun x=>ii x) 3),(11,.row 1 n.N.length (((nS n l 0).2 2).map fun x=>ii x) 3),(12,.row 1 n.N.length (((nS n l 0).2 3).map fun x=>ii x) 3),(13,.row 1 n.N.length (((nS n l 0).2 4).map fun x=>ii x) 3),(14,.row 1 n.N.length (((nS n l 0).2 5).map fun x=>ii x) 3),(15,.row 1 n.N.length (((nS n l 0).2 6).map fun x=>ii x) 3),(16,.row 1 n.N.length (((nS n l 0).2 7).map fun x=>ii x) 3),(17,.row 1 n.N.length (((nS n l 0).2 8).map fun x=>ii x) 3),(18,.row 1 n.N.length (((nS n l 0).2 9).map fun x=>ii x) 3),(19,.row 1 n.N.length (((nS n l 0).2 10).map fun x=>ii x) 3),(20,.row 1 n.N.length (((nS n l 0).2 11).map fun x=>ii x) 3),(21,.row 1 n.N.length (((nS n l 0).2 12).map fun x=>ii x) 3),(22,.row 1 n.N.length (((nS n l 0).2 13).map fun x=>ii x) 3),(23,.row 1 n.N.length (((nS n l 0).2 14).map fun x=>ii x) 3),(24,.row 1 n.N.length (((nS n l 0).2 15).map fun x=>ii x) 3),(26,.cells [.opq 2] 128),(27,.row 2 (nO n l 0).length ((nO n l 0).flatMap Evt.cells) 62),(2,.rwin 2 (evR l 0).length ((evR l 0).flatMap Evt.vals)),(3,.pin plp)]) 1 (fun _=>.row 2 0 [] 62) (fun _ _=>.inl ⟨_,_,rfl⟩) ⟨⟨_,rfl,.inl rfl⟩,⟨_,rfl,.inl rfl⟩,⟨_,rfl,.inr (.inl ⟨rfl,0,by decide,rfl⟩)⟩,⟨_,rfl,.inl rfl⟩,⟨_,rfl,.inl rfl⟩,trivial⟩ (by repeat first|exact trivial|refine⟨.inr ⟨_,rfl,.inl rfl⟩,?_⟩|refine⟨.inl ⟨0,by decide,rfl⟩,?_⟩) ?_
 have hne1 :∀x∈([(5,.cells [.opq 6,ii n.inp,.opq 25,.mp 7,ii ((0:Nat):Int),.opq 8,.opq 9,.opq 10,.opq 11,.opq 12,.opq 13,.opq 14,.opq 15,.opq 16,.opq 17,.opq 18,.opq 19,.opq 20,.opq 21,.opq 22,.opq 23,.opq 24] 170),(6,.rwin 8 n.N.length (n.N.flatMap Prm.vals)),(7,swS n.S),(8,.row 2 n.N.length ((nS n l 0).1.flatMap Ste.cells) 139),(9,.row 1 n.N.length (((nS n l 0).2 0).map fun x=>ii x) 3),(10,.row 1 n.N.length (((nS n l 0).2 1).map fun x=>ii x) 3),(11,.row 1 n.N.length (((nS n l 0).2 2).map fun x=>ii x) 3),(12,.row 1 n.N.length (((nS n l 0).2 3).map fun x=>ii x) 3),(13,.row 1 n.N.length (((nS n l 0).2 4).map fun x=>ii x) 3),(14,.row 1 n.N.length (((nS n l 0).2 5).map fun x=>ii x) 3),(15,.row 1 n.N.length (((nS n l 0).2 6).map fun x=>ii x) 3),(16,.row 1 n.N.length (((nS n l 0).2 7).map fun x=>ii x) 3),(17,.row 1 n.N.length (((nS n l 0).2 8).map fun x=>ii x) 3),(18,.row 1 n.N.length (((nS n l 0).2 9).map fun x=>ii x) 3),(19,.row 1 n.N.length (((nS n l 0).2 10).map fun x=>ii x) 3),(20,.row 1 n.N.length (((nS n l 0).2 11).map fun x=>ii x) 3),(21,.row 1 n.N.length (((nS n l 0).2 12).map fun x=>ii x) 3),(22,.row 1 n.N.length (((nS n l 0).2 13).map fun x=>ii x) 3),(23,.row 1 n.N.length (((nS n l 0).2 14).map fun x=>ii x) 3),(24,.row 1 n.N.length (((nS n l 0).2 15).map fun x=>ii x) 3),(26,.cells [.opq 28] 128),(27,.row 2 (nO n l 0).length ((nO n l 0).flatMap Evt.cells) 62),(28,.rwin 2 (evR l 0).length ((evR l 0).flatMap Evt.vals)),(3,.pin plp)]:List (Nat×SObj)),x.1≠2:=AllP.mem ⟨(show 5≠2 by decide),(show 6≠2 by decide),(show 7≠2 by decide),(show 8≠2 by decide),(show 9≠2 by decide),(show 10≠2 by decide),(show 11≠2 by decide),(show 12≠2 by decide),(show 13≠2 by decide),(show 14≠2 by decide),(show 15≠2 by decide),(show 16≠2 by decide),(show 17≠2 by decide),(show 18≠2 by decide),(show 19≠2 by decide),(show 20≠2 by decide),(show 21≠2 by decide),(show 22≠2 by decide),(show 23≠2 by decide),(show 24≠2 by decide),(show 26≠2 by decide),(show 27≠2 by decide),(show 28≠2 by decide),(show 3≠2 by decide),trivial⟩
 have hrqe :∀i,rq [(28,2)] i=if i=28 then 2 else i:=fun i=>by
  unfold rq
  rw[qP]
  by_cases e:i=28
  ·rw[if_pos e.symm,if_pos e]
  ·rw[if_neg (Ne.symm e),if_neg e];rfl
 refine Run.less (s':=⟨[(9,.ptr 5 0),(10,.ptr 26 0),(11,.opq 27),(27,ii (K:Int)),(28,ii 0)],[(5,.cells [.opq 6,ii n.inp,.opq 25,.mp 7,ii ((0:Nat):Int),.opq 8,.opq 9,.opq 10,.opq 11,.opq 12,.opq 13,.opq 14,.opq 15,.opq 16,.opq 17,.opq 18,.opq 19,.opq 20,.opq 21,.opq 22,.opq 23,.opq 24] 170),(6,.rwin 8 n.N.length (n.N.flatMap Prm.vals)),(7,swS n.S),(8,.row 2 n.N.length ((nS n l 0).1.flatMap Ste.cells) 139),(9,.row 1 n.N.length (((nS n l 0).2 0).map fun x=>ii x) 3),(10,.row 1 n.N.length (((nS n l 0).2 1).map fun x=>ii x) 3),(11,.row 1 n.N.length (((nS n l 0).2 2).map fun x=>ii x) 3),(12,.row 1 n.N.length (((nS n l 0).2 3).map fun x=>ii x) 3),(13,.row 1 n.N.length (((nS n l 0).2 4).map fun x=>ii x) 3),(14,.row 1 n.N.length (((nS n l 0).2 5).map fun x=>ii x) 3),(15,.row 1 n.N.length (((nS n l 0).2 6).map fun x=>ii x) 3),(16,.row 1 n.N.length (((nS n l 0).2 7).map fun x=>ii x) 3),(17,.row 1 n.N.length (((nS n l 0).2 8).map fun x=>ii x) 3),(18,.row 1 n.N.length (((nS n l 0).2 9).map fun x=>ii x) 3),(19,.row 1 n.N.length (((nS n l 0).2 10).map fun x=>ii x) 3),(20,.row 1 n.N.length (((nS n l 0).2 11).map fun x=>ii x) 3),(21,.row 1 n.N.length (((nS n l 0).2 12).map fun x=>ii x) 3),(22,.row 1 n.N.length (((nS n l 0).2 13).map fun x=>ii x) 3),(23,.row 1 n.N.length (((nS n l 0).2 14).map fun x=>ii x) 3),(24,.row 1 n.N.length (((nS n l 0).2 15).map fun x=>ii x) 3),(26,.cells [.opq 28] 128),(27,.row 2 (nO n l 0).length ((nO n l 0).flatMap Evt.cells) 62),(28,.rwin 2 (evR l 0).length ((evR l 0).flatMap Evt.vals)),(3,.pin plp)],29,[],_⟩) (rq [(28,2)]) ⟨AllP.mem ⟨⟨rfl,ltb rfl⟩,⟨rfl,ltb rfl⟩,⟨rfl,ltb rfl⟩,⟨rfl,trivial⟩,⟨rfl,trivial⟩,trivial⟩,AllP.mem ⟨⟨rfl,ltb rfl,qE _ rfl⟩,⟨rfl,ltb rfl,trivial⟩,⟨rfl,ltb rfl,trivial⟩,⟨congrArg some (ofx (o:=.row 2 n.N.length ((nS n l 0).1.flatMap Ste.cells) 139) (qS _ _)).symm,(show 8<29 by decide),qS _ _⟩,⟨congrArg some (ofx (o:=.row 1 n.N.length (((nS n l 0).2 0).map fun x=>ii x) 3) (qB _ _)).symm,(show 9<29 by decide),qB _ _⟩,⟨congrArg some (ofx (o:=.row 1 n.N.length (((nS n l 0).2 1).map fun x=>ii x) 3) (qB _ _)).symm,(show 10<29 by decide),qB _ _⟩,⟨congrArg some (ofx (o:=.row 1 n.N.length (((nS n l 0).2 2).map fun x=>ii x) 3) (qB _ _)).symm,(show 11<29 by decide),qB _ _⟩,⟨congrArg some (ofx (o:=.row 1 n.N.length (((nS n l 0).2 3).map fun x=>ii x) 3) (qB _ _)).symm,(show 12<29 by decide),qB _ _⟩,⟨congrArg some (ofx (o:=.row 1 n.N.length (((nS n l 0).2 4).map fun x=>ii x) 3) (qB _ _)).symm,(show 13<29 by decide),qB _ _⟩,⟨congrArg some (ofx (o:=.row 1 n.N.length (((nS n l 0).2 5).map fun x=>ii x) 3) (qB _ _)).symm,(show 14<29 by decide),qB _ _⟩,⟨congrArg some (ofx (o:=.row 1 n.N.length (((nS n l 0).2 6).map fun x=>ii x) 3) (qB _ _)).symm,(show 15<29 by decide),qB _ _⟩,⟨congrArg some (ofx (o:=.row 1 n.N.length (((nS n l 0).2 7).map fun x=>ii x) 3) (qB _ _)).symm,(show 16<29 by decide),qB _ _⟩,⟨congrArg some (ofx (o:=.row 1 n.N.length (((nS n l 0).2 8).map fun x=>ii x) 3) (qB _ _)).symm,(show 17<29 by decide),qB _ _⟩,⟨congrArg some (ofx (o:=.row 1 n.N.length (((nS n l 0).2 9).map fun x=>ii x) 3) (qB _ _)).symm,(show 18<29 by decide),qB _ _⟩,⟨congrArg some (ofx (o:=.row 1 n.N.length (((nS n l 0).2 10).map fun x=>ii x) 3) (qB _ _)).symm,(show 19<29 by decide),qB _ _⟩,⟨congrArg some (ofx (o:=.row 1 n.N.length (((nS n l 0).2 11).map fun x=>ii x) 3) (qB _ _)).symm,(show 20<29 by decide),qB _ _⟩,⟨congrArg some (ofx (o:=.row 1 n.N.length (((nS n l 0).2 12).map fun x=>ii x) 3) (qB _ _)).symm,(show 21<29 by decide),qB _ _⟩,⟨congrArg some (ofx (o:=.row 1 n.N.length (((nS n l 0).2 13).map fun x=>ii x) 3) (qB _ _)).symm,(show 22<29 by decide),qB _ _⟩,⟨congrArg some (ofx (o:=.row 1 n.N.length (((nS n l 0).2 14).map fun x=>ii x) 3) (qB _ _)).symm,(show 23<29 by decide),qB _ _⟩,⟨congrArg some (ofx (o:=.row 1 n.N.length (((nS n l 0).2 15).map fun x=>ii x) 3) (qB _ _)).symm,(show 24<29 by decide),qB _ _⟩,⟨rfl,ltb rfl,qE _ rfl⟩,⟨congrArg some (ofx (o:=.row 2 (nO n l 0).length ((nO n l 0).flatMap Evt.cells) 62) (zT _ _)).symm,(show 27<29 by decide),zT _ _⟩,⟨rfl,ltb rfl,trivial⟩,⟨congrArg some (jK hcov (fun i hi=>zG (zA (B:=3) rfl hi))).symm,(show 3<29 by decide),pnx hcov rfl⟩,trivial⟩,(fun x hx y hy h=> ?_),(fun p hp=>⟨by rw[hrqe,if_neg (by have:=hHL p hp;omega)],by have:=hHL p hp;show p.1<29;omega⟩),rfl,rfl⟩ ?_
 ·have h1:=hne1 x hx
  have h2:=hne1 y hy
  rw[hrqe,hrqe]
  split<;>split<;>omega
 clear hne1 hrqe
 refine Run.rD (T:=fun i=>[(9,.ptr 5 0),(10,.ptr 26 0),(11,.opq 27),(27,ii (K:Int)),(28,ii ((i:Nat):Int))]) (M:=fun i=>[(5,.cells [.opq 6,ii n.inp,.opq 25,.mp 7,ii ((i:Nat):Int),.opq 8,.opq 9,.opq 10,.opq 11,.opq 12,.opq 13,.opq 14,.opq 15,.opq 16,.opq 17,.opq 18,.opq 19,.opq 20,.opq 21,.opq 22,.opq 23,.opq 24] 170),(6,.rwin 8 n.N.length (n.N.flatMap Prm.vals)),(7,swS n.S),(8,.row 2 n.N.length ((nS n l i).1.flatMap Ste.cells) 139),(9,.row 1 n.N.length (((nS n l i).2 0).map fun x=>ii x) 3),(10,.row 1 n.N.length (((nS n l i).2 1).map fun x=>ii x) 3),(11,.row 1 n.N.length (((nS n l i).2 2).map fun x=>ii x) 3),(12,.row 1 n.N.length (((nS n l i).2 3).map fun x=>ii x) 3),(13,.row 1 n.N.length (((nS n l i).2 4).map fun x=>ii x) 3),(14,.row 1 n.N.length (((nS n l i).2 5).map fun x=>ii x) 3),(15,.row 1 n.N.length (((nS n l i).2 6).map fun x=>ii x) 3),(16,.row 1 n.N.length (((nS n l i).2 7).map fun x=>ii x) 3),(17,.row 1 n.N.length (((nS n l i).2 8).map fun x=>ii x) 3),(18,.row 1 n.N.length (((nS n l i).2 9).map fun x=>ii x) 3),(19,.row 1 n.N.length (((nS n l i).2 10).map fun x=>ii x) 3),(20,.row 1 n.N.length (((nS n l i).2 11).map fun x=>ii x) 3),(21,.row 1 n.N.length (((nS n l i).2 12).map fun x=>ii x) 3),(22,.row 1 n.N.length (((nS n l i).2 13).map fun x=>ii x) 3),(23,.row 1 n.N.length (((nS n l i).2 14).map fun x=>ii x) 3),(24,.row 1 n.N.length (((nS n l i).2 15).map fun x=>ii x) 3),(26,.cells [.opq 28] 128),(27,.row 2 (nO n l i).length ((nO n l i).flatMap Evt.cells) 62),(28,.rwin 2 (evR l i).length ((evR l i).flatMap Evt.vals)),(3,.pin plp)]) (fun _=>True) K trivial ?_ ?_
 ·intro i hi hJ ih
  obtain⟨X,hX⟩ :∃X,evR l i=X:=⟨_,rfl⟩
  have hXl:X.length≤65536:=by rw[←hX];exact Nat.le_trans (w9 l i) hll
  have hev:evR l (i+1)=X.drop (nAt ((i:Nat):Int) X):=by show(evR l i).drop (nAt i (evR l i))=_;rw[hX]
  have hnl:=nAt_le ((i:Nat):Int) X
  rw[hX]
  refine Run.rQ fun plq hcovq=> ?_
  have hne1 :∀x∈([(29,.pin plq),(5,.cells [.opq 6,ii n.inp,.opq 25,.mp 7,ii ((i:Nat):Int),.opq 8,.opq 9,.opq 10,.opq 11,.opq 12,.opq 13,.opq 14,.opq 15,.opq 16,.opq 17,.opq 18,.opq 19,.opq 20,.opq 21,.opq 22,.opq 23,.opq 24] 170),(6,.rwin 8 n.N.length (n.N.flatMap Prm.vals)),(7,swS n.S),(8,.row 2 n.N.length ((nS n l i).1.flatMap Ste.cells) 139),(9,.row 1 n.N.length (((nS n l i).2 0).map fun x=>ii x) 3),(10,.row 1 n.N.length (((nS n l i).2 1).map fun x=>ii x) 3),(11,.row 1 n.N.length (((nS n l i).2 2).map fun x=>ii x) 3),(12,.row 1 n.N.length (((nS n l i).2 3).map fun x=>ii x) 3),(13,.row 1 n.N.length (((nS n l i).2 4).map fun x=>ii x) 3),(14,.row 1 n.N.length (((nS n l i).2 5).map fun x=>ii x) 3),(15,.row 1 n.N.length (((nS n l i).2 6).map fun x=>ii x) 3),(16,.row 1 n.N.length (((nS n l i).2 7).map fun x=>ii x) 3),(17,.row 1 n.N.length (((nS n l i).2 8).map fun x=>ii x) 3),(18,.row 1 n.N.length (((nS n l i).2 9).map fun x=>ii x) 3),(19,.row 1 n.N.length (((nS n l i).2 10).map fun x=>ii x) 3),(20,.row 1 n.N.length (((nS n l i).2 11).map fun x=>ii x) 3),(21,.row 1 n.N.length (((nS n l i).2 12).map fun x=>ii x) 3),(22,.row 1 n.N.length (((nS n l i).2 13).map fun x=>ii x) 3),(23,.row 1 n.N.length (((nS n l i).2 14).map fun x=>ii x) 3),(24,.row 1 n.N.length (((nS n l i).2 15).map fun x=>ii x) 3),(26,.cells [.opq 30] 128),(27,.row 2 (nO n l i).length ((nO n l i).flatMap Evt.cells) 62),(30,.rwin 2 X.length (X.flatMap Evt.vals)),(3,.pin plp)]:List (Nat×SObj)),x.1≠28:=AllP.mem ⟨(show 29≠28 by decide),(show 5≠28 by decide),(show 6≠28 by decide),(show 7≠28 by decide),(show 8≠28 by decide),(show 9≠28 by decide),(show 10≠28 by decide),(show 11≠28 by decide),(show 12≠28 by decide),(show 13≠28 by decide),(show 14≠28 by decide),(show 15≠28 by decide),(show 16≠28 by decide),(show 17≠28 by decide),(show 18≠28 by decide),(show 19≠28 by decide),(show 20≠28 by decide),(show 21≠28 by decide),(show 22≠28 by decide),(show 23≠28 by decide),(show 24≠28 by decide),(show 26≠28 by decide),(show 27≠28 by decide),(show 30≠28 by decide),(show 3≠28 by decide),trivial⟩
  have hrqe :∀i,rq [(30,28)] i=if i=30 then 28 else i:=fun i=>by
   unfold rq
   rw[qP]
   by_cases e:i=30
   ·rw[if_pos e.symm,if_pos e]
   ·rw[if_neg (Ne.symm e),if_neg e];rfl
  refine Run.less (s':=⟨[(9,.ptr 5 0),(10,.ptr 26 0),(11,.opq 27),(27,ii (K:Int)),(28,ii ((i:Nat):Int))],[(29,.pin plq),(5,.cells [.opq 6,ii n.inp,.opq 25,.mp 7,ii ((i:Nat):Int),.opq 8,.opq 9,.opq 10,.opq 11,.opq 12,.opq 13,.opq 14,.opq 15,.opq 16,.opq 17,.opq 18,.opq 19,.opq 20,.opq 21,.opq 22,.opq 23,.opq 24] 170),(6,.rwin 8 n.N.length (n.N.flatMap Prm.vals)),(7,swS n.S),(8,.row 2 n.N.length ((nS n l i).1.flatMap Ste.cells) 139),(9,.row 1 n.N.length (((nS n l i).2 0).map fun x=>ii x) 3),(10,.row 1 n.N.length (((nS n l i).2 1).map fun x=>ii x) 3),(11,.row 1 n.N.length (((nS n l i).2 2).map fun x=>ii x) 3),(12,.row 1 n.N.length (((nS n l i).2 3).map fun x=>ii x) 3),(13,.row 1 n.N.length (((nS n l i).2 4).map fun x=>ii x) 3),(14,.row 1 n.N.length (((nS n l i).2 5).map fun x=>ii x) 3),(15,.row 1 n.N.length (((nS n l i).2 6).map fun x=>ii x) 3),(16,.row 1 n.N.length (((nS n l i).2 7).map fun x=>ii x) 3),(17,.row 1 n.N.length (((nS n l i).2 8).map fun x=>ii x) 3),(18,.row 1 n.N.length (((nS n l i).2 9).map fun x=>ii x) 3),(19,.row 1 n.N.length (((nS n l i).2 10).map fun x=>ii x) 3),(20,.row 1 n.N.length (((nS n l i).2 11).map fun x=>ii x) 3),(21,.row 1 n.N.length (((nS n l i).2 12).map fun x=>ii x) 3),(22,.row 1 n.N.length (((nS n l i).2 13).map fun x=>ii x) 3),(23,.row 1 n.N.length (((nS n l i).2 14).map fun x=>ii x) 3),(24,.row 1 n.N.length (((nS n l i).2 15).map fun x=>ii x) 3),(26,.cells [.opq 30] 128),(27,.row 2 (nO n l i).length ((nO n l i).flatMap Evt.cells) 62),(30,.rwin 2 X.length (X.flatMap Evt.vals)),(3,.pin plp)],31,[],_⟩) (rq [(30,28)]) ⟨AllP.mem ⟨⟨rfl,ltb rfl⟩,⟨rfl,ltb rfl⟩,⟨rfl,ltb rfl⟩,⟨rfl,trivial⟩,⟨rfl,trivial⟩,trivial⟩,AllP.mem ⟨⟨congrArg some (jK hcovq (fun i hi=>zG (zA (B:=29) rfl hi))).symm,(show 29<31 by decide),fun p hp=>Nat.lt_of_lt_of_le (hcovq.1 p hp) (show 29≤31 by decide)⟩,⟨rfl,ltb rfl,qE _ rfl⟩,⟨rfl,ltb rfl,trivial⟩,⟨rfl,ltb rfl,trivial⟩,⟨congrArg some (ofx (o:=.row 2 n.N.length ((nS n l i).1.flatMap Ste.cells) 139) (qS _ _)).symm,(show 8<31 by decide),qS _ _⟩,⟨congrArg some (ofx (o:=.row 1 n.N.length (((nS n l i).2 0).map fun x=>ii x) 3) (qB _ _)).symm,(show 9<31 by decide),qB _ _⟩,⟨congrArg some (ofx (o:=.row 1 n.N.length (((nS n l i).2 1).map fun x=>ii x) 3) (qB _ _)).symm,(show 10<31 by decide),qB _ _⟩,⟨congrArg some (ofx (o:=.row 1 n.N.length (((nS n l i).2 2).map fun x=>ii x) 3) (qB _ _)).symm,(show 11<31 by decide),qB _ _⟩,⟨congrArg some (ofx (o:=.row 1 n.N.length (((nS n l i).2 3).map fun x=>ii x) 3) (qB _ _)).symm,(show 12<31 by decide),qB _ _⟩,⟨congrArg some (ofx (o:=.row 1 n.N.length (((nS n l i).2 4).map fun x=>ii x) 3) (qB _ _)).symm,(show 13<31 by decide),qB _ _⟩,⟨congrArg some (ofx (o:=.row 1 n.N.length (((nS n l i).2 5).map fun x=>ii x) 3) (qB _ _)).symm,(show 14<31 by decide),qB _ _⟩,⟨congrArg some (ofx (o:=.row 1 n.N.length (((nS n l i).2 6).map fun x=>ii x) 3) (qB _ _)).symm,(show 15<31 by decide),qB _ _⟩,⟨congrArg some (ofx (o:=.row 1 n.N.length (((nS n l i).2 7).map fun x=>ii x) 3) (qB _ _)).symm,(show 16<31 by decide),qB _ _⟩,⟨congrArg some (ofx (o:=.row 1 n.N.length (((nS n l i).2 8).map fun x=>ii x) 3) (qB _ _)).symm,(show 17<31 by decide),qB _ _⟩,⟨congrArg some (ofx (o:=.row 1 n.N.length (((nS n l i).2 9).map fun x=>ii x) 3) (qB _ _)).symm,(show 18<31 by decide),qB _ _⟩,⟨congrArg some (ofx (o:=.row 1 n.N.length (((nS n l i).2 10).map fun x=>ii x) 3) (qB _ _)).symm,(show 19<31 by decide),qB _ _⟩,⟨congrArg some (ofx (o:=.row 1 n.N.length (((nS n l i).2 11).map fun x=>ii x) 3) (qB _ _)).symm,(show 20<31 by decide),qB _ _⟩,⟨congrArg some (ofx (o:=.row 1 n.N.length (((nS n l i).2 12).map fun x=>ii x) 3) (qB _ _)).symm,(show 21<31 by decide),qB _ _⟩,⟨congrArg some (ofx (o:=.row 1 n.N.length (((nS n l i).2 13).map fun x=>ii x) 3) (qB _ _)).symm,(show 22<31 by decide),qB _ _⟩,⟨congrArg some (ofx (o:=.row 1 n.N.length (((nS n l i).2 14).map fun x=>ii x) 3) (qB _ _)).symm,(show 23<31 by decide),qB _ _⟩,⟨congrArg some (ofx (o:=.row 1 n.N.length (((nS n l i).2 15).map fun x=>ii x) 3) (qB _ _)).symm,(show 24<31 by decide),qB _ _⟩,⟨rfl,ltb rfl,qE _ rfl⟩,⟨congrArg some (ofx (o:=.row 2 (nO n l i).length ((nO n l i).flatMap Evt.cells) 62) (zT _ _)).symm,(show 27<31 by decide),zT _ _⟩,⟨rfl,ltb rfl,trivial⟩,⟨congrArg some (jK hcov (fun i hi=>zG (zA (B:=3) rfl hi))).symm,(show 3<31 by decide),pnx hcov rfl⟩,trivial⟩,(fun x hx y hy h=> ?_),(fun p hp=>⟨by rw[hrqe,if_neg (by have:=hHL p hp;omega)],by have:=hHL p hp;show p.1<31;omega⟩),rfl,rfl⟩ ?_
  ·have h1:=hne1 x hx
   have h2:=hne1 y hy
   rw[hrqe,hrqe]
   split<;>split<;>omega
  clear hne1 hrqe
  refine Run.W1 (hc w1 LL none nofun) ?_
  conv=>whnf
  rw[decide_eq_true (show((i:Nat):Int)<(K:Int)by omega)]
  conv=>whnf
  refine Run.inlineF (T0:=[(9,.ptr 5 0),(10,.ptr 26 0),(11,.opq 27),(27,ii (K:Int)),(28,ii ((i:Nat):Int)),(12,ii ((i:Nat):Int)),(31,.ptr 5 0)]) rfl rfl rfl rfl rfl rfl rfl (ent _ _ Try.func61 (by kernel_rfl) rfl) Try.func61 rfl rfl [] [(2000,fun _ _=>none)] hcovq rfl (fun v M' n'=>v = .opq 31∧M'=[(31,.row 1 (zF X (nAt ((i:Nat):Int) X)).length ((zF X (nAt ((i:Nat):Int) X)).map fun x=>ii x) 3),(29,.pin plq),(5,.cells [.opq 6,ii n.inp,.opq 25,.mp 7,ii ((i:Nat):Int),.opq 8,.opq 9,.opq 10,.opq 11,.opq 12,.opq 13,.opq 14,.opq 15,.opq 16,.opq 17,.opq 18,.opq 19,.opq 20,.opq 21,.opq 22,.opq 23,.opq 24] 170),(6,.rwin 8 n.N.length (n.N.flatMap Prm.vals)),(7,swS n.S),(8,.row 2 n.N.length ((nS n l i).1.flatMap Ste.cells) 139),(9,.row 1 n.N.length (((nS n l i).2 0).map fun x=>ii x) 3),(10,.row 1 n.N.length (((nS n l i).2 1).map fun x=>ii x) 3),(11,.row 1 n.N.length (((nS n l i).2 2).map fun x=>ii x) 3),(12,.row 1 n.N.length (((nS n l i).2 3).map fun x=>ii x) 3),(13,.row 1 n.N.length (((nS n l i).2 4).map fun x=>ii x) 3),(14,.row 1 n.N.length (((nS n l i).2 5).map fun x=>ii x) 3),(15,.row 1 n.N.length (((nS n l i).2 6).map fun x=>ii x) 3),(16,.row 1 n.N.length (((nS n l i).2 7).map fun x=>ii x) 3),(17,.row 1 n.N.length (((nS n l i).2 8).map fun x=>ii x) 3),(18,.row 1 n.N.length (((nS n l i).2 9).map fun x=>ii x) 3),(19,.row 1 n.N.length (((nS n l i).2 10).map fun x=>ii x) 3),(20,.row 1 n.N.length (((nS n l i).2 11).map fun x=>ii x) 3),(21,.row 1 n.N.length (((nS n l i).2 12).map fun x=>ii x) 3),(22,.row 1 n.N.length (((nS n l i).2 13).map fun x=>ii x) 3),(23,.row 1 n.N.length (((nS n l i).2 14).map fun x=>ii x) 3),(24,.row 1 n.N.length (((nS n l i).2 15).map fun x=>ii x) 3),(26,.cells [.opq 30] 128),(27,.row 2 (nO n l i).length ((nO n l i).flatMap Evt.cells) 62),(30,.rwin 2 (X.drop (nAt ((i:Nat):Int) X)).length ((X.drop (nAt ((i:Nat):Int) X)).flatMap Evt.vals)),(3,.pin plp)]∧n'=32) ?_ ?_ ?_
  ·exact AllP.mem (by repeat first|exact trivial|refine⟨⟨rfl,ltb rfl⟩,?_⟩|refine⟨⟨rfl,trivial⟩,?_⟩)
  ·refine Run.s0 (hc2 w1 LL none nofun) 100 _ ?_
   conv=>whnf
   refine Run.nils (T':=[(0,.ptr 26 0),(1,ii ((i:Nat):Int)),(5,.opq 31)]) (M':=[(31,.row 1 (zF X 0).length ((zF X 0).map fun x=>ii x) 3),(29,.pin plq),(5,.cells [.opq 6,ii n.inp,.opq 25,.mp 7,ii ((i:Nat):Int),.opq 8,.opq 9,.opq 10,.opq 11,.opq 12,.opq 13,.opq 14,.opq 15,.opq 16,.opq 17,.opq 18,.opq 19,.opq 20,.opq 21,.opq 22,.opq 23,.opq 24] 170),(6,.rwin 8 n.N.length (n.N.flatMap Prm.vals)),(7,swS n.S),(8,.row 2 n.N.length ((nS n l i).1.flatMap Ste.cells) 139),(9,.row 1 n.N.length (((nS n l i).2 0).map fun x=>ii x) 3),(10,.row 1 n.N.length (((nS n l i).2 1).map fun x=>ii x) 3),(11,.row 1 n.N.length (((nS n l i).2 2).map fun x=>ii x) 3),(12,.row 1 n.N.length (((nS n l i).2 3).map fun x=>ii x) 3),(13,.row 1 n.N.length (((nS n l i).2 4).map fun x=>ii x) 3),(14,.row 1 n.N.length (((nS n l i).2 5).map fun x=>ii x) 3),(15,.row 1 n.N.length (((nS n l i).2 6).map fun x=>ii x) 3),(16,.row 1 n.N.length (((nS n l i).2 7).map fun x=>ii x) 3),(17,.row 1 n.N.length (((nS n l i).2 8).map fun x=>ii x) 3),(18,.row 1 n.N.length (((nS n l i).2 9).map fun x=>ii x) 3),(19,.row 1 n.N.length (((nS n l i).2 10).map fun x=>ii x) 3),(20,.row 1 n.N.length (((nS n l i).2 11).map fun x=>ii x) 3),(21,.row 1 n.N.length (((nS n l i).2 12).map fun x=>ii x) 3),(22,.row 1 n.N.length (((nS n l i).2 13).map fun x=>ii x) 3),(23,.row 1 n.N.length (((nS n l i).2 14).map fun x=>ii x) 3),(24,.row 1 n.N.length (((nS n l i).2 15).map fun x=>ii x) 3),(26,.cells [.opq 30] 128),(27,.row 2 (nO n l i).length ((nO n l i).flatMap Evt.cells) 62),(30,.rwin 2 (X.drop 0).length ((X.drop 0).flatMap Evt.vals)),(3,.pin plp)]) 1 (fun _=>.row 1 0 [] 3) (fun _ _=>.inl ⟨_,_,rfl⟩) ⟨⟨_,rfl,.inl rfl⟩,⟨_,rfl,.inl rfl⟩,⟨_,rfl,.inr (.inl ⟨rfl,0,by decide,rfl⟩)⟩,trivial⟩ (by repeat first|exact trivial|refine⟨.inl ⟨0,by decide,rfl⟩,?_⟩|refine⟨.inr ⟨_,rfl,.inl rfl⟩,?_⟩) ?_
   refine Run.rD (T:=fun _=>[(0,.ptr 26 0),(1,ii ((i:Nat):Int)),(5,.opq 31)]) (M:=fun j=>[(31,.row 1 (zF X j).length ((zF X j).map fun x=>ii x) 3),(29,.pin plq),(5,.cells [.opq 6,ii n.inp,.opq 25,.mp 7,ii ((i:Nat):Int),.opq 8,.opq 9,.opq 10,.opq 11,.opq 12,.opq 13,.opq 14,.opq 15,.opq 16,.opq 17,.opq 18,.opq 19,.opq 20,.opq 21,.opq 22,.opq 23,.opq 24] 170),(6,.rwin 8 n.N.length (n.N.flatMap Prm.vals)),(7,swS n.S),(8,.row 2 n.N.length ((nS n l i).1.flatMap Ste.cells) 139),(9,.row 1 n.N.length (((nS n l i).2 0).map fun x=>ii x) 3),(10,.row 1 n.N.length (((nS n l i).2 1).map fun x=>ii x) 3),(11,.row 1 n.N.length (((nS n l i).2 2).map fun x=>ii x) 3),(12,.row 1 n.N.length (((nS n l i).2 3).map fun x=>ii x) 3),(13,.row 1 n.N.length (((nS n l i).2 4).map fun x=>ii x) 3),(14,.row 1 n.N.length (((nS n l i).2 5).map fun x=>ii x) 3),(15,.row 1 n.N.length (((nS n l i).2 6).map fun x=>ii x) 3),(16,.row 1 n.N.length (((nS n l i).2 7).map fun x=>ii x) 3),(17,.row 1 n.N.length (((nS n l i).2 8).map fun x=>ii x) 3),(18,.row 1 n.N.length (((nS n l i).2 9).map fun x=>ii x) 3),(19,.row 1 n.N.length (((nS n l i).2 10).map fun x=>ii x) 3),(20,.row 1 n.N.length (((nS n l i).2 11).map fun x=>ii x) 3),(21,.row 1 n.N.length (((nS n l i).2 12).map fun x=>ii x) 3),(22,.row 1 n.N.length (((nS n l i).2 13).map fun x=>ii x) 3),(23,.row 1 n.N.length (((nS n l i).2 14).map fun x=>ii x) 3),(24,.row 1 n.N.length (((nS n l i).2 15).map fun x=>ii x) 3),(26,.cells [.opq 30] 128),(27,.row 2 (nO n l i).length ((nO n l i).flatMap Evt.cells) 62),(30,.rwin 2 (X.drop j).length ((X.drop j).flatMap Evt.vals)),(3,.pin plp)]) (fun _=>True) ((nAt ((i:Nat):Int) X)) trivial ?_ ?_
   ·intro j hj _ ih2
    obtain⟨hj1,hj2⟩:=nAt_lt hj
    have h0:0<(X.drop j).length:=by rw[List.length_drop];omega
    have e0:(X.drop j)[0]=X[j]:=by simp
    refine Run.W1 (hc2 w1 LL none nofun) ?_
    conv=>whnf
    rw[decide_eq_true (show(0:Int)<((X.drop j).length:Int)by omega)]
    conv=>whnf
    refine⟨by omega,?_⟩
    conv=>whnf
    rw[q9 (f:=Evt.vals) (l:=X.drop j) (c:=.int .i64 (X.drop j)[0].tick) 0 0 rfl rfl rfl rfl Evt.vlen rfl h0 (by decide) rfl]
    conv=>whnf
    rw[e0,hj2,show(((i:Nat):Int)==((i:Nat):Int))=true by simp]
    conv=>whnf
    refine⟨by omega,?_⟩
    conv=>whnf
    rw[q9 (f:=Evt.vals) (l:=X.drop j) (c:=.int .i64 (X.drop j)[0].id) 0 1 rfl rfl rfl rfl Evt.vlen rfl h0 (by decide) rfl]
    conv=>whnf
    rw[e0]
    conv=>whnf
    have hil:=vI (show j≤X.length by omega)
    refine⟨by omega,?_⟩
    conv=>whnf
    rw[u0 1 rfl rfl rfl rfl rfl rfl (by omega),yQ Evt.vlen,List.drop_drop,show(X.drop j).length-1=(X.drop (j+1)).length by simp;omega]
    conv=>whnf
    refine Run.rC (T':=[(0,.ptr 26 0),(1,ii ((i:Nat):Int)),(5,.opq 31)]) (M':=[(31,.row 1 (zF X (j+1)).length ((zF X (j+1)).map fun x=>ii x) 3),(29,.pin plq),(5,.cells [.opq 6,ii n.inp,.opq 25,.mp 7,ii ((i:Nat):Int),.opq 8,.opq 9,.opq 10,.opq 11,.opq 12,.opq 13,.opq 14,.opq 15,.opq 16,.opq 17,.opq 18,.opq 19,.opq 20,.opq 21,.opq 22,.opq 23,.opq 24] 170),(6,.rwin 8 n.N.length (n.N.flatMap Prm.vals)),(7,swS n.S),(8,.row 2 n.N.length ((nS n l i).1.flatMap Ste.cells) 139),(9,.row 1 n.N.length (((nS n l i).2 0).map fun x=>ii x) 3),(10,.row 1 n.N.length (((nS n l i).2 1).map fun x=>ii x) 3),(11,.row 1 n.N.length (((nS n l i).2 2).map fun x=>ii x) 3),(12,.row 1 n.N.length (((nS n l i).2 3).map fun x=>ii x) 3),(13,.row 1 n.N.length (((nS n l i).2 4).map fun x=>ii x) 3),(14,.row 1 n.N.length (((nS n l i).2 5).map fun x=>ii x) 3),(15,.row 1 n.N.length (((nS n l i).2 6).map fun x=>ii x) 3),(16,.row 1 n.N.length (((nS n l i).2 7).map fun x=>ii x) 3),(17,.row 1 n.N.length (((nS n l i).2 8).map fun x=>ii x) 3),(18,.row 1 n.N.length (((nS n l i).2 9).map fun x=>ii x) 3),(19,.row 1 n.N.length (((nS n l i).2 10).map fun x=>ii x) 3),(20,.row 1 n.N.length (((nS n l i).2 11).map fun x=>ii x) 3),(21,.row 1 n.N.length (((nS n l i).2 12).map fun x=>ii x) 3),(22,.row 1 n.N.length (((nS n l i).2 13).map fun x=>ii x) 3),(23,.row 1 n.N.length (((nS n l i).2 14).map fun x=>ii x) 3),(24,.row 1 n.N.length (((nS n l i).2 15).map fun x=>ii x) 3),(26,.cells [.opq 30] 128),(27,.row 2 (nO n l i).length ((nO n l i).flatMap Evt.cells) 62),(30,.rwin 2 (X.drop (j+1)).length ((X.drop (j+1)).flatMap Evt.vals)),(3,.pin plp)]) (rq [(31,33),(33,31),(30,34),(34,30)]) 32 ?_ ?_ ?_ ?_ (ih2 trivial)
    ·intro i hi j hj hne he
     have inv :∀i,i<32→rq [(31,33),(33,31),(30,34),(34,30)] (rq [(31,33),(33,31),(30,34),(34,30)] i)=i:=by decide
     exact hne (by rw[←inv i hi,he,inv j hj])
    ·exact⟨⟨rfl,ltb rfl⟩,⟨rfl,trivial⟩,⟨rfl,ltb rfl⟩,trivial⟩
    ·exact⟨⟨by rw[ofx (o:=.row 1 (zF X (j+1)).length ((zF X (j+1)).map fun x=>ii x) 3) (qB _ _),tM hj1,List.length_append,List.map_append];rfl,by omega,Os.h _⟩,⟨congrArg some (jK hcovq (fun i hi=>zG (zA (B:=29) rfl hi))).symm,by omega,fun p hp=>Nat.lt_of_lt_of_le (hcovq.1 p hp) (show 29≤32 by decide)⟩,⟨rfl,by omega,qE _ rfl⟩,⟨rfl,by omega,Os.h _⟩,⟨rfl,by omega,Os.h _⟩,⟨congrArg some (ofx (o:=.row 2 n.N.length ((nS n l i).1.flatMap Ste.cells) 139) (qS _ _)).symm,by omega,Os.h _⟩,⟨congrArg some (ofx (o:=.row 1 n.N.length (((nS n l i).2 0).map fun x=>ii x) 3) (qB _ _)).symm,by omega,Os.h _⟩,⟨congrArg some (ofx (o:=.row 1 n.N.length (((nS n l i).2 1).map fun x=>ii x) 3) (qB _ _)).symm,by omega,Os.h _⟩,⟨congrArg some (ofx (o:=.row 1 n.N.length (((nS n l i).2 2).map fun x=>ii x) 3) (qB _ _)).symm,by omega,Os.h _⟩,⟨congrArg some (ofx (o:=.row 1 n.N.length (((nS n l i).2 3).map fun x=>ii x) 3) (qB _ _)).symm,by omega,Os.h _⟩,⟨congrArg some (ofx (o:=.row 1 n.N.length (((nS n l i).2 4).map fun x=>ii x) 3) (qB _ _)).symm,by omega,Os.h _⟩,⟨congrArg some (ofx (o:=.row 1 n.N.length (((nS n l i).2 5).map fun x=>ii x) 3) (qB _ _)).symm,by omega,Os.h _⟩,⟨congrArg some (ofx (o:=.row 1 n.N.length (((nS n l i).2 6).map fun x=>ii x) 3) (qB _ _)).symm,by omega,Os.h _⟩,⟨congrArg some (ofx (o:=.row 1 n.N.length (((nS n l i).2 7).map fun x=>ii x) 3) (qB _ _)).symm,by omega,Os.h _⟩,⟨congrArg some (ofx (o:=.row 1 n.N.length (((nS n l i).2 8).map fun x=>ii x) 3) (qB _ _)).symm,by omega,Os.h _⟩,⟨congrArg some (ofx (o:=.row 1 n.N.length (((nS n l i).2 9).map fun x=>ii x) 3) (qB _ _)).symm,by omega,Os.h _⟩,⟨congrArg some (ofx (o:=.row 1 n.N.length (((nS n l i).2 10).map fun x=>ii x) 3) (qB _ _)).symm,by omega,Os.h _⟩,⟨congrArg some (ofx (o:=.row 1 n.N.length (((nS n l i).2 11).map fun x=>ii x) 3) (qB _ _)).symm,by omega,Os.h _⟩,⟨congrArg some (ofx (o:=.row 1 n.N.length (((nS n l i).2 12).map fun x=>ii x) 3) (qB _ _)).symm,by omega,Os.h _⟩,⟨congrArg some (ofx (o:=.row 1 n.N.length (((nS n l i).2 13).map fun x=>ii x) 3) (qB _ _)).symm,by omega,Os.h _⟩,⟨congrArg some (ofx (o:=.row 1 n.N.length (((nS n l i).2 14).map fun x=>ii x) 3) (qB _ _)).symm,by omega,Os.h _⟩,⟨congrArg some (ofx (o:=.row 1 n.N.length (((nS n l i).2 15).map fun x=>ii x) 3) (qB _ _)).symm,by omega,Os.h _⟩,⟨rfl,by omega,qE _ rfl⟩,⟨congrArg some (ofx (o:=.row 2 (nO n l i).length ((nO n l i).flatMap Evt.cells) 62) (zT _ _)).symm,by omega,Os.h _⟩,⟨rfl,by omega,Os.h _⟩,⟨congrArg some (jK hcov (fun i hi=>zG (zA (B:=3) rfl hi))).symm,by omega,pnx hcov rfl⟩,trivial⟩
    ·intro p hp
     have:=hHL p hp
     exact⟨zG (zA (B:=26) rfl this.2.1),by omega⟩
   ·intro _
    refine Run.W1 (hc2 w1 LL none nofun) ?_
    conv=>whnf
    by_cases hlt:(nAt ((i:Nat):Int) X)<X.length
    ·have h0:0<(X.drop (nAt ((i:Nat):Int) X)).length:=by rw[List.length_drop];omega
     have e0:(X.drop (nAt ((i:Nat):Int) X))[0]=X[(nAt ((i:Nat):Int) X)]:=by simp
     have hne:=nAt_end hlt
     rw[decide_eq_true (show(0:Int)<((X.drop (nAt ((i:Nat):Int) X)).length:Int)by omega)]
     conv=>whnf
     refine⟨by omega,?_⟩
     conv=>whnf
     rw[q9 (f:=Evt.vals) (l:=X.drop (nAt ((i:Nat):Int) X)) (c:=.int .i64 (X.drop (nAt ((i:Nat):Int) X))[0].tick) 0 0 rfl rfl rfl rfl Evt.vlen rfl h0 (by decide) rfl]
     conv=>whnf
     rw[e0,show(X[(nAt ((i:Nat):Int) X)].tick==((i:Nat):Int))=false by simpa using hne]
     conv=>whnf
     exact⟨fun ρ w' hW _=>⟨ρ,.opq 31,[(31,.row 1 (zF X (nAt ((i:Nat):Int) X)).length ((zF X (nAt ((i:Nat):Int) X)).map fun x=>ii x) 3),(29,.pin plq),(5,.cells [.opq 6,ii n.inp,.opq 25,.mp 7,ii ((i:Nat):Int),.opq 8,.opq 9,.opq 10,.opq 11,.opq 12,.opq 13,.opq 14,.opq 15,.opq 16,.opq 17,.opq 18,.opq 19,.opq 20,.opq 21,.opq 22,.opq 23,.opq 24] 170),(6,.rwin 8 n.N.length (n.N.flatMap Prm.vals)),(7,swS n.S),(8,.row 2 n.N.length ((nS n l i).1.flatMap Ste.cells) 139),(9,.row 1 n.N.length (((nS n l i).2 0).map fun x=>ii x) 3),(10,.row 1 n.N.length (((nS n l i).2 1).map fun x=>ii x) 3),(11,.row 1 n.N.length (((nS n l i).2 2).map fun x=>ii x) 3),(12,.row 1 n.N.length (((nS n l i).2 3).map fun x=>ii x) 3),(13,.row 1 n.N.length (((nS n l i).2 4).map fun x=>ii x) 3),(14,.row 1 n.N.length (((nS n l i).2 5).map fun x=>ii x) 3),(15,.row 1 n.N.length (((nS n l i).2 6).map fun x=>ii x) 3),(16,.row 1 n.N.length (((nS n l i).2 7).map fun x=>ii x) 3),(17,.row 1 n.N.length (((nS n l i).2 8).map fun x=>ii x) 3),(18,.row 1 n.N.length (((nS n l i).2 9).map fun x=>ii x) 3),(19,.row 1 n.N.length (((nS n l i).2 10).map fun x=>ii x) 3),(20,.row 1 n.N.length (((nS n l i).2 11).map fun x=>ii x) 3),(21,.row 1 n.N.length (((nS n l i).2 12).map fun x=>ii x) 3),(22,.row 1 n.N.length (((nS n l i).2 13).map fun x=>ii x) 3),(23,.row 1 n.N.length (((nS n l i).2 14).map fun x=>ii x) 3),(24,.row 1 n.N.length (((nS n l i).2 15).map fun x=>ii x) 3),(26,.cells [.opq 30] 128),(27,.row 2 (nO n l i).length ((nO n l i).flatMap Evt.cells) 62),(30,.rwin 2 (X.drop (nAt ((i:Nat):Int) X)).length ((X.drop (nAt ((i:Nat):Int) X)).flatMap Evt.vals)),(3,.pin plp)],32,rfl,rfl,(show 31<32 by decide),hW,rfl,rfl,rfl⟩⟩
    ·have h0:(X.drop (nAt ((i:Nat):Int) X)).length=0:=by rw[List.length_drop];omega
     rw[decide_eq_false (show ¬(0:Int)<((X.drop (nAt ((i:Nat):Int) X)).length:Int)by omega)]
     conv=>whnf
     exact⟨fun ρ w' hW _=>⟨ρ,.opq 31,[(31,.row 1 (zF X (nAt ((i:Nat):Int) X)).length ((zF X (nAt ((i:Nat):Int) X)).map fun x=>ii x) 3),(29,.pin plq),(5,.cells [.opq 6,ii n.inp,.opq 25,.mp 7,ii ((i:Nat):Int),.opq 8,.opq 9,.opq 10,.opq 11,.opq 12,.opq 13,.opq 14,.opq 15,.opq 16,.opq 17,.opq 18,.opq 19,.opq 20,.opq 21,.opq 22,.opq 23,.opq 24] 170),(6,.rwin 8 n.N.length (n.N.flatMap Prm.vals)),(7,swS n.S),(8,.row 2 n.N.length ((nS n l i).1.flatMap Ste.cells) 139),(9,.row 1 n.N.length (((nS n l i).2 0).map fun x=>ii x) 3),(10,.row 1 n.N.length (((nS n l i).2 1).map fun x=>ii x) 3),(11,.row 1 n.N.length (((nS n l i).2 2).map fun x=>ii x) 3),(12,.row 1 n.N.length (((nS n l i).2 3).map fun x=>ii x) 3),(13,.row 1 n.N.length (((nS n l i).2 4).map fun x=>ii x) 3),(14,.row 1 n.N.length (((nS n l i).2 5).map fun x=>ii x) 3),(15,.row 1 n.N.length (((nS n l i).2 6).map fun x=>ii x) 3),(16,.row 1 n.N.length (((nS n l i).2 7).map fun x=>ii x) 3),(17,.row 1 n.N.length (((nS n l i).2 8).map fun x=>ii x) 3),(18,.row 1 n.N.length (((nS n l i).2 9).map fun x=>ii x) 3),(19,.row 1 n.N.length (((nS n l i).2 10).map fun x=>ii x) 3),(20,.row 1 n.N.length (((nS n l i).2 11).map fun x=>ii x) 3),(21,.row 1 n.N.length (((nS n l i).2 12).map fun x=>ii x) 3),(22,.row 1 n.N.length (((nS n l i).2 13).map fun x=>ii x) 3),(23,.row 1 n.N.length (((nS n l i).2 14).map fun x=>ii x) 3),(24,.row 1 n.N.length (((nS n l i).2 15).map fun x=>ii x) 3),(26,.cells [.opq 30] 128),(27,.row 2 (nO n l i).length ((nO n l i).flatMap Evt.cells) 62),(30,.rwin 2 (X.drop (nAt ((i:Nat):Int) X)).length ((X.drop (nAt ((i:Nat):Int) X)).flatMap Evt.vals)),(3,.pin plp)],32,rfl,rfl,(show 31<32 by decide),hW,rfl,rfl,rfl⟩⟩
  ·rintro v M' n' ⟨rfl,rfl,rfl⟩
   have hnl2:(zF X (nAt ((i:Nat):Int) X)).length≤65536:=by rw[vI hnl];omega
   have hisn :∀k:Nat,(5≠k∧8≠k∧(k<9∨24<k)) → ∀q∈([0,3,4,5,6,7,8,9,10,11,12,13,14,15,16,17,18,19]:List Nat),(fun q=>if q=21 then 31 else 5+q) q≠k:=by
    intro k hk q hq
    have hq2:q=0∨q=3∨(4≤q∧q≤19):=by simp at hq;omega
    show(if q=21 then 31 else 5+q)≠k
    rw[if_neg (by omega)];omega
   refine Run.W1 (hc w1 LL none nofun) ?_
   conv=>whnf
   have hstep:=nstep_spec n.inp ((i:Nat):Int) n.N n.S (nS n l i).1 (nS n l i).2 (trIn l i) (hok i (by omega))
   rw[show W (((i:Nat):Int)+1)=((i+1:Nat):Int)from z8 (by omega),show(nB ((i:Nat):Int) n.N (nS n l i).1 (nS n l i).2).1=(nS n l (i+1)).1 from rfl,show nDue ((i:Nat):Int) n.N n.S (nS n l i).1 (nS n l i).2 (trIn l i)=(nS n l (i+1)).2 from rfl,show(nB ((i:Nat):Int) n.N (nS n l i).1 (nS n l i).2).2.1=nSp n l i from rfl,show trIn l i=zF X (nAt ((i:Nat):Int) X)by unfold trIn;rw[hX]]at hstep
   have eO:nO n l (i+1)=nO n l i++spk ((i:Nat):Int) ((nSp n l i).take (nSp n l i).length):=by
    show nO n l i++spk i (nSp n l i)=_
    rw[List.take_length]
   have hol0:=nSp_len n l i
   have hOl:(nO n l i).length≤65536:=Nat.le_trans (nO_len n l i) (Nat.le_trans (Nat.mul_le_mul_right _ (by omega)) hK)
   obtain⟨s,hs⟩ :∃s,nS n l i=s:=⟨_,rfl⟩
   obtain⟨s2,hs2⟩ :∃s2,nS n l (i+1)=s2:=⟨_,rfl⟩
   obtain⟨o,ho⟩ :∃o,nSp n l i=o:=⟨_,rfl⟩
   obtain⟨O,hO⟩ :∃O,nO n l i=O:=⟨_,rfl⟩
   rw[hs,hs2,ho]at hstep
   rw[ho,hO]at eO
   rw[ho]at hol0
   rw[hO]at hOl
   rw[hs,hO]
   refine Run.rI (vs:=[.ptr 0 0,.opq 21]) (caps:=[]) (caps2:=[]) hstep (ent _ _ Try.func60 (by kernel_rfl) rfl) rfl rfl rfl rfl rfl rfl [.ptr 5 0,.opq 31] rfl (fun q=>if q=21 then 31 else 5+q) rfl (fun q hq=>by show(if q=21 then 31 else 5+q)<32;split<;>omega) (fun q hq j hj hne=>by show(if q=21 then 31 else 5+q)≠(if j=21 then 31 else 5+j);split<;>split<;>omega) (by decide)
    ⟨⟨by omega,SV.s7 (by decide) (jN _ _),⟨_,rfl,Conv.refl _⟩,.inr (by simp),fun h=>by cases h⟩,⟨by omega,trivial,⟨_,rfl,Conv.refl _⟩,.inl rfl,fun _=>by simp⟩,⟨by omega,trivial,⟨_,rfl,Conv.refl _⟩,.inl rfl,fun _=>by simp⟩,⟨by omega,qS _ _,⟨_,rfl,by rw[ofx (o:=.row 2 n.N.length (s.1.flatMap Ste.cells) 139) (qS _ _)];exact Conv.refl _⟩,.inr (by simp),fun h=>by cases h⟩,⟨by omega,qB _ _,⟨_,rfl,by rw[ofx (o:=.row 1 n.N.length ((s.2 0).map fun x=>ii x) 3) (qB _ _)];exact Conv.refl _⟩,.inr (by simp),fun h=>by cases h⟩,⟨by omega,qB _ _,⟨_,rfl,by rw[ofx (o:=.row 1 n.N.length ((s.2 1).map fun x=>ii x) 3) (qB _ _)];exact Conv.refl _⟩,.inr (by simp),fun h=>by cases h⟩,⟨by omega,qB _ _,⟨_,rfl,by rw[ofx (o:=.row 1 n.N.length ((s.2 2).map fun x=>ii x) 3) (qB _ _)];exact Conv.refl _⟩,.inr (by simp),fun h=>by cases h⟩,⟨by omega,qB _ _,⟨_,rfl,by rw[ofx (o:=.row 1 n.N.length ((s.2 3).map fun x=>ii x) 3) (qB _ _)];exact Conv.refl _⟩,.inr (by simp),fun h=>by cases h⟩,⟨by omega,qB _ _,⟨_,rfl,by rw[ofx (o:=.row 1 n.N.length ((s.2 4).map fun x=>ii x) 3) (qB _ _)];exact Conv.refl _⟩,.inr (by simp),fun h=>by cases h⟩,⟨by omega,qB _ _,⟨_,rfl,by rw[ofx (o:=.row 1 n.N.length ((s.2 5).map fun x=>ii x) 3) (qB _ _)];exact Conv.refl _⟩,.inr (by simp),fun h=>by cases h⟩,⟨by omega,qB _ _,⟨_,rfl,by rw[ofx (o:=.row 1 n.N.length ((s.2 6).map fun x=>ii x) 3) (qB _ _)];exact Conv.refl _⟩,.inr (by simp),fun h=>by cases h⟩,⟨by omega,qB _ _,⟨_,rfl,by rw[ofx (o:=.row 1 n.N.length ((s.2 7).map fun x=>ii x) 3) (qB _ _)];exact Conv.refl _⟩,.inr (by simp),fun h=>by cases h⟩,⟨by omega,qB _ _,⟨_,rfl,by rw[ofx (o:=.row 1 n.N.length ((s.2 8).map fun x=>ii x) 3) (qB _ _)];exact Conv.refl _⟩,.inr (by simp),fun h=>by cases h⟩,⟨by omega,qB _ _,⟨_,rfl,by rw[ofx (o:=.row 1 n.N.length ((s.2 9).map fun x=>ii x) 3) (qB _ _)];exact Conv.refl _⟩,.inr (by simp),fun h=>by cases h⟩,⟨by omega,qB _ _,⟨_,rfl,by rw[ofx (o:=.row 1 n.N.length ((s.2 10).map fun x=>ii x) 3) (qB _ _)];exact Conv.refl _⟩,.inr (by simp),fun h=>by cases h⟩,⟨by omega,qB _ _,⟨_,rfl,by rw[ofx (o:=.row 1 n.N.length ((s.2 11).map fun x=>ii x) 3) (qB _ _)];exact Conv.refl _⟩,.inr (by simp),fun h=>by cases h⟩,⟨by omega,qB _ _,⟨_,rfl,by rw[ofx (o:=.row 1 n.N.length ((s.2 12).map fun x=>ii x) 3) (qB _ _)];exact Conv.refl _⟩,.inr (by simp),fun h=>by cases h⟩,⟨by omega,qB _ _,⟨_,rfl,by rw[ofx (o:=.row 1 n.N.length ((s.2 13).map fun x=>ii x) 3) (qB _ _)];exact Conv.refl _⟩,.inr (by simp),fun h=>by cases h⟩,⟨by omega,qB _ _,⟨_,rfl,by rw[ofx (o:=.row 1 n.N.length ((s.2 14).map fun x=>ii x) 3) (qB _ _)];exact Conv.refl _⟩,.inr (by simp),fun h=>by cases h⟩,⟨by omega,qB _ _,⟨_,rfl,by rw[ofx (o:=.row 1 n.N.length ((s.2 15).map fun x=>ii x) 3) (qB _ _)];exact Conv.refl _⟩,.inr (by simp),fun h=>by cases h⟩,⟨by omega,trivial,⟨_,rfl,Conv.row (by decide) (ints_iv _)⟩,.inl rfl,fun _=>by simp⟩,trivial⟩ (fun q hq=>by
     have hq2:q=0∨q=3∨q=4∨q=5∨q=6∨q=7∨q=8∨q=9∨q=10∨q=11∨q=12∨q=13∨q=14∨q=15∨q=16∨q=17∨q=18∨q=19:=by simpa using hq
     rcases hq2 with rfl|rfl|rfl|rfl|rfl|rfl|rfl|rfl|rfl|rfl|rfl|rfl|rfl|rfl|rfl|rfl|rfl|rfl<;>exact⟨by omega,_,rfl⟩) (.opq 32) [(32,.row 1 o.length (o.map fun x=>ii x) 3),(5,.cells [.opq 6,ii n.inp,.opq 25,.mp 7,ii ((i+1:Nat):Int),.opq 8,.opq 9,.opq 10,.opq 11,.opq 12,.opq 13,.opq 14,.opq 15,.opq 16,.opq 17,.opq 18,.opq 19,.opq 20,.opq 21,.opq 22,.opq 23,.opq 24] 170),(6,.rwin 8 n.N.length (n.N.flatMap Prm.vals)),(7,swS n.S),(8,.row 2 n.N.length (s2.1.flatMap Ste.cells) 139),(9,.row 1 n.N.length ((s2.2 0).map fun x=>ii x) 3),(10,.row 1 n.N.length ((s2.2 1).map fun x=>ii x) 3),(11,.row 1 n.N.length ((s2.2 2).map fun x=>ii x) 3),(12,.row 1 n.N.length ((s2.2 3).map fun x=>ii x) 3),(13,.row 1 n.N.length ((s2.2 4).map fun x=>ii x) 3),(14,.row 1 n.N.length ((s2.2 5).map fun x=>ii x) 3),(15,.row 1 n.N.length ((s2.2 6).map fun x=>ii x) 3),(16,.row 1 n.N.length ((s2.2 7).map fun x=>ii x) 3),(17,.row 1 n.N.length ((s2.2 8).map fun x=>ii x) 3),(18,.row 1 n.N.length ((s2.2 9).map fun x=>ii x) 3),(19,.row 1 n.N.length ((s2.2 10).map fun x=>ii x) 3),(20,.row 1 n.N.length ((s2.2 11).map fun x=>ii x) 3),(21,.row 1 n.N.length ((s2.2 12).map fun x=>ii x) 3),(22,.row 1 n.N.length ((s2.2 13).map fun x=>ii x) 3),(23,.row 1 n.N.length ((s2.2 14).map fun x=>ii x) 3),(24,.row 1 n.N.length ((s2.2 15).map fun x=>ii x) 3),(26,.cells [.opq 30] 128),(27,.row 2 O.length (O.flatMap Evt.cells) 62),(30,.rwin 2 (X.drop (nAt ((i:Nat):Int) X)).length ((X.drop (nAt ((i:Nat):Int) X)).flatMap Evt.vals)),(3,.pin plp)] 33 rfl rfl
    ⟨.inr ⟨22,_,rfl,rfl,by rw[ofx (o:=.row 1 o.length (o.map fun x=>ii x) 3) (qB _ _)],rfl⟩,.inr ⟨0,_,rfl,rfl,rfl,rfl⟩,.inl ⟨rfl,hisn 6 (by decide)⟩,.inl ⟨rfl,hisn 7 (by decide)⟩,.inr ⟨3,_,rfl,rfl,by rw[ofx (o:=.row 2 n.N.length (s2.1.flatMap Ste.cells) 139) (qS _ _)],rfl⟩,.inr ⟨4,_,rfl,rfl,by rw[ofx (o:=.row 1 n.N.length ((s2.2 0).map fun x=>ii x) 3) (qB _ _)],rfl⟩,.inr ⟨5,_,rfl,rfl,by rw[ofx (o:=.row 1 n.N.length ((s2.2 1).map fun x=>ii x) 3) (qB _ _)],rfl⟩,.inr ⟨6,_,rfl,rfl,by rw[ofx (o:=.row 1 n.N.length ((s2.2 2).map fun x=>ii x) 3) (qB _ _)],rfl⟩,.inr ⟨7,_,rfl,rfl,by rw[ofx (o:=.row 1 n.N.length ((s2.2 3).map fun x=>ii x) 3) (qB _ _)],rfl⟩,.inr ⟨8,_,rfl,rfl,by rw[ofx (o:=.row 1 n.N.length ((s2.2 4).map fun x=>ii x) 3) (qB _ _)],rfl⟩,.inr ⟨9,_,rfl,rfl,by rw[ofx (o:=.row 1 n.N.length ((s2.2 5).map fun x=>ii x) 3) (qB _ _)],rfl⟩,.inr ⟨10,_,rfl,rfl,by rw[ofx (o:=.row 1 n.N.length ((s2.2 6).map fun x=>ii x) 3) (qB _ _)],rfl⟩,.inr ⟨11,_,rfl,rfl,by rw[ofx (o:=.row 1 n.N.length ((s2.2 7).map fun x=>ii x) 3) (qB _ _)],rfl⟩,.inr ⟨12,_,rfl,rfl,by rw[ofx (o:=.row 1 n.N.length ((s2.2 8).map fun x=>ii x) 3) (qB _ _)],rfl⟩,.inr ⟨13,_,rfl,rfl,by rw[ofx (o:=.row 1 n.N.length ((s2.2 9).map fun x=>ii x) 3) (qB _ _)],rfl⟩,.inr ⟨14,_,rfl,rfl,by rw[ofx (o:=.row 1 n.N.length ((s2.2 10).map fun x=>ii x) 3) (qB _ _)],rfl⟩,.inr ⟨15,_,rfl,rfl,by rw[ofx (o:=.row 1 n.N.length ((s2.2 11).map fun x=>ii x) 3) (qB _ _)],rfl⟩,.inr ⟨16,_,rfl,rfl,by rw[ofx (o:=.row 1 n.N.length ((s2.2 12).map fun x=>ii x) 3) (qB _ _)],rfl⟩,.inr ⟨17,_,rfl,rfl,by rw[ofx (o:=.row 1 n.N.length ((s2.2 13).map fun x=>ii x) 3) (qB _ _)],rfl⟩,.inr ⟨18,_,rfl,rfl,by rw[ofx (o:=.row 1 n.N.length ((s2.2 14).map fun x=>ii x) 3) (qB _ _)],rfl⟩,.inr ⟨19,_,rfl,rfl,by rw[ofx (o:=.row 1 n.N.length ((s2.2 15).map fun x=>ii x) 3) (qB _ _)],rfl⟩,.inl ⟨rfl,hisn 26 (by decide)⟩,.inl ⟨rfl,hisn 27 (by decide)⟩,.inl ⟨rfl,hisn 30 (by decide)⟩,.inl ⟨rfl,hisn 3 (by decide)⟩,trivial⟩ ?_
   refine Run.W1 (hc w1 LL none nofun) ?_
   conv=>whnf
   refine Run.s6 (T':=[(9,.ptr 5 0),(10,.ptr 26 0),(11,.opq 27),(27,ii (K:Int)),(28,ii ((i:Nat):Int)),(12,ii ((i:Nat):Int)),(35,.opq 32),(36,ii (o.length:Int)),(37,ii ((0:Nat):Int))]) (M':=[(32,.row 1 o.length (o.map fun x=>ii x) 3),(5,.cells [.opq 6,ii n.inp,.opq 25,.mp 7,ii ((i+1:Nat):Int),.opq 8,.opq 9,.opq 10,.opq 11,.opq 12,.opq 13,.opq 14,.opq 15,.opq 16,.opq 17,.opq 18,.opq 19,.opq 20,.opq 21,.opq 22,.opq 23,.opq 24] 170),(6,.rwin 8 n.N.length (n.N.flatMap Prm.vals)),(7,swS n.S),(8,.row 2 n.N.length (s2.1.flatMap Ste.cells) 139),(9,.row 1 n.N.length ((s2.2 0).map fun x=>ii x) 3),(10,.row 1 n.N.length ((s2.2 1).map fun x=>ii x) 3),(11,.row 1 n.N.length ((s2.2 2).map fun x=>ii x) 3),(12,.row 1 n.N.length ((s2.2 3).map fun x=>ii x) 3),(13,.row 1 n.N.length ((s2.2 4).map fun x=>ii x) 3),(14,.row 1 n.N.length ((s2.2 5).map fun x=>ii x) 3),(15,.row 1 n.N.length ((s2.2 6).map fun x=>ii x) 3),(16,.row 1 n.N.length ((s2.2 7).map fun x=>ii x) 3),(17,.row 1 n.N.length ((s2.2 8).map fun x=>ii x) 3),(18,.row 1 n.N.length ((s2.2 9).map fun x=>ii x) 3),(19,.row 1 n.N.length ((s2.2 10).map fun x=>ii x) 3),(20,.row 1 n.N.length ((s2.2 11).map fun x=>ii x) 3),(21,.row 1 n.N.length ((s2.2 12).map fun x=>ii x) 3),(22,.row 1 n.N.length ((s2.2 13).map fun x=>ii x) 3),(23,.row 1 n.N.length ((s2.2 14).map fun x=>ii x) 3),(24,.row 1 n.N.length ((s2.2 15).map fun x=>ii x) 3),(26,.cells [.opq 30] 128),(27,.row 2 (O++spk ((i:Nat):Int) (o.take 0)).length ((O++spk ((i:Nat):Int) (o.take 0)).flatMap Evt.cells) 62),(30,.rwin 2 (X.drop (nAt ((i:Nat):Int) X)).length ((X.drop (nAt ((i:Nat):Int) X)).flatMap Evt.vals)),(3,.pin plp)]) 33 (by repeat first|exact trivial|refine⟨⟨rfl,ltb rfl⟩,?_⟩|refine⟨⟨rfl,trivial⟩,?_⟩) (by repeat first|exact trivial|refine⟨⟨rfl,by omega,Os.h _⟩,?_⟩|refine⟨⟨rfl,by omega,qE _ rfl⟩,?_⟩|refine⟨⟨rfl,by omega,pnx hcov rfl⟩,?_⟩|refine⟨⟨by rw[show spk ((i:Nat):Int) (o.take 0)=[]from rfl,List.append_nil];rfl,by omega,Os.h _⟩,?_⟩) (fun p hp=>by have:=hHL p hp;omega) ?_
   refine Run.rD (T:=fun j=>[(9,.ptr 5 0),(10,.ptr 26 0),(11,.opq 27),(27,ii (K:Int)),(28,ii ((i:Nat):Int)),(12,ii ((i:Nat):Int)),(35,.opq 32),(36,ii (o.length:Int)),(37,ii ((j:Nat):Int))]) (M:=fun j=>[(32,.row 1 o.length (o.map fun x=>ii x) 3),(5,.cells [.opq 6,ii n.inp,.opq 25,.mp 7,ii ((i+1:Nat):Int),.opq 8,.opq 9,.opq 10,.opq 11,.opq 12,.opq 13,.opq 14,.opq 15,.opq 16,.opq 17,.opq 18,.opq 19,.opq 20,.opq 21,.opq 22,.opq 23,.opq 24] 170),(6,.rwin 8 n.N.length (n.N.flatMap Prm.vals)),(7,swS n.S),(8,.row 2 n.N.length (s2.1.flatMap Ste.cells) 139),(9,.row 1 n.N.length ((s2.2 0).map fun x=>ii x) 3),(10,.row 1 n.N.length ((s2.2 1).map fun x=>ii x) 3),(11,.row 1 n.N.length ((s2.2 2).map fun x=>ii x) 3),(12,.row 1 n.N.length ((s2.2 3).map fun x=>ii x) 3),(13,.row 1 n.N.length ((s2.2 4).map fun x=>ii x) 3),(14,.row 1 n.N.length ((s2.2 5).map fun x=>ii x) 3),(15,.row 1 n.N.length ((s2.2 6).map fun x=>ii x) 3),(16,.row 1 n.N.length ((s2.2 7).map fun x=>ii x) 3),(17,.row 1 n.N.length ((s2.2 8).map fun x=>ii x) 3),(18,.row 1 n.N.length ((s2.2 9).map fun x=>ii x) 3),(19,.row 1 n.N.length ((s2.2 10).map fun x=>ii x) 3),(20,.row 1 n.N.length ((s2.2 11).map fun x=>ii x) 3),(21,.row 1 n.N.length ((s2.2 12).map fun x=>ii x) 3),(22,.row 1 n.N.length ((s2.2 13).map fun x=>ii x) 3),(23,.row 1 n.N.length ((s2.2 14).map fun x=>ii x) 3),(24,.row 1 n.N.length ((s2.2 15).map fun x=>ii x) 3),(26,.cells [.opq 30] 128),(27,.row 2 (O++spk ((i:Nat):Int) (o.take j)).length ((O++spk ((i:Nat):Int) (o.take j)).flatMap Evt.cells) 62),(30,.rwin 2 (X.drop (nAt ((i:Nat):Int) X)).length ((X.drop (nAt ((i:Nat):Int) X)).flatMap Evt.vals)),(3,.pin plp)]) (fun _=>True) o.length trivial ?_ ?_
   ·intro j hj _ ih2
    have hol:(O++spk ((i:Nat):Int) (o.take j)).length≤131072:=by
     simp only[spk,List.length_append,List.length_map,List.length_take]
     omega
    refine Run.W1 (hc w1 LL none nofun) ?_
    conv=>whnf
    rw[decide_eq_true (show((j:Nat):Int)<(o.length:Int)by omega)]
    conv=>whnf
    refine⟨by omega,?_⟩
    conv=>whnf
    rw[tZ j rfl rfl rfl rfl (by rw[qQ,Nat.mul_one]) hj]
    conv=>whnf
    refine⟨by omega,?_⟩
    conv=>whnf
    refine Run.rC (T':=[(9,.ptr 5 0),(10,.ptr 26 0),(11,.opq 27),(27,ii (K:Int)),(28,ii ((i:Nat):Int)),(12,ii ((i:Nat):Int)),(35,.opq 32),(36,ii (o.length:Int)),(37,ii ((j+1:Nat):Int))]) (M':=[(32,.row 1 o.length (o.map fun x=>ii x) 3),(5,.cells [.opq 6,ii n.inp,.opq 25,.mp 7,ii ((i+1:Nat):Int),.opq 8,.opq 9,.opq 10,.opq 11,.opq 12,.opq 13,.opq 14,.opq 15,.opq 16,.opq 17,.opq 18,.opq 19,.opq 20,.opq 21,.opq 22,.opq 23,.opq 24] 170),(6,.rwin 8 n.N.length (n.N.flatMap Prm.vals)),(7,swS n.S),(8,.row 2 n.N.length (s2.1.flatMap Ste.cells) 139),(9,.row 1 n.N.length ((s2.2 0).map fun x=>ii x) 3),(10,.row 1 n.N.length ((s2.2 1).map fun x=>ii x) 3),(11,.row 1 n.N.length ((s2.2 2).map fun x=>ii x) 3),(12,.row 1 n.N.length ((s2.2 3).map fun x=>ii x) 3),(13,.row 1 n.N.length ((s2.2 4).map fun x=>ii x) 3),(14,.row 1 n.N.length ((s2.2 5).map fun x=>ii x) 3),(15,.row 1 n.N.length ((s2.2 6).map fun x=>ii x) 3),(16,.row 1 n.N.length ((s2.2 7).map fun x=>ii x) 3),(17,.row 1 n.N.length ((s2.2 8).map fun x=>ii x) 3),(18,.row 1 n.N.length ((s2.2 9).map fun x=>ii x) 3),(19,.row 1 n.N.length ((s2.2 10).map fun x=>ii x) 3),(20,.row 1 n.N.length ((s2.2 11).map fun x=>ii x) 3),(21,.row 1 n.N.length ((s2.2 12).map fun x=>ii x) 3),(22,.row 1 n.N.length ((s2.2 13).map fun x=>ii x) 3),(23,.row 1 n.N.length ((s2.2 14).map fun x=>ii x) 3),(24,.row 1 n.N.length ((s2.2 15).map fun x=>ii x) 3),(26,.cells [.opq 30] 128),(27,.row 2 (O++spk ((i:Nat):Int) (o.take (j+1))).length ((O++spk ((i:Nat):Int) (o.take (j+1))).flatMap Evt.cells) 62),(30,.rwin 2 (X.drop (nAt ((i:Nat):Int) X)).length ((X.drop (nAt ((i:Nat):Int) X)).flatMap Evt.vals)),(3,.pin plp)]) (rq [(27,34),(34,27)]) 33 ?_ ?_ ?_ ?_ (ih2 trivial)
    ·intro i hi j hj hne he
     have inv :∀i,i<33→rq [(27,34),(34,27)] (rq [(27,34),(34,27)] i)=i:=by decide
     exact hne (by rw[←inv i hi,he,inv j hj])
    ·exact(by repeat first|exact trivial|refine⟨⟨rfl,ltb rfl⟩,?_⟩|refine⟨⟨rfl,trivial⟩,?_⟩|refine⟨⟨wsx (by omega),trivial⟩,?_⟩)
    ·exact⟨⟨congrArg some (ofx (o:=.row 1 o.length (o.map fun x=>ii x) 3) (qB _ _)).symm,by omega,Os.h _⟩,⟨rfl,by omega,qE _ rfl⟩,⟨rfl,by omega,Os.h _⟩,⟨rfl,by omega,Os.h _⟩,⟨congrArg some (ofx (o:=.row 2 n.N.length (s2.1.flatMap Ste.cells) 139) (qS _ _)).symm,by omega,Os.h _⟩,⟨congrArg some (ofx (o:=.row 1 n.N.length ((s2.2 0).map fun x=>ii x) 3) (qB _ _)).symm,by omega,Os.h _⟩,⟨congrArg some (ofx (o:=.row 1 n.N.length ((s2.2 1).map fun x=>ii x) 3) (qB _ _)).symm,by omega,Os.h _⟩,⟨congrArg some (ofx (o:=.row 1 n.N.length ((s2.2 2).map fun x=>ii x) 3) (qB _ _)).symm,by omega,Os.h _⟩,⟨congrArg some (ofx (o:=.row 1 n.N.length ((s2.2 3).map fun x=>ii x) 3) (qB _ _)).symm,by omega,Os.h _⟩,⟨congrArg some (ofx (o:=.row 1 n.N.length ((s2.2 4).map fun x=>ii x) 3) (qB _ _)).symm,by omega,Os.h _⟩,⟨congrArg some (ofx (o:=.row 1 n.N.length ((s2.2 5).map fun x=>ii x) 3) (qB _ _)).symm,by omega,Os.h _⟩,⟨congrArg some (ofx (o:=.row 1 n.N.length ((s2.2 6).map fun x=>ii x) 3) (qB _ _)).symm,by omega,Os.h _⟩,⟨congrArg some (ofx (o:=.row 1 n.N.length ((s2.2 7).map fun x=>ii x) 3) (qB _ _)).symm,by omega,Os.h _⟩,⟨congrArg some (ofx (o:=.row 1 n.N.length ((s2.2 8).map fun x=>ii x) 3) (qB _ _)).symm,by omega,Os.h _⟩,⟨congrArg some (ofx (o:=.row 1 n.N.length ((s2.2 9).map fun x=>ii x) 3) (qB _ _)).symm,by omega,Os.h _⟩,⟨congrArg some (ofx (o:=.row 1 n.N.length ((s2.2 10).map fun x=>ii x) 3) (qB _ _)).symm,by omega,Os.h _⟩,⟨congrArg some (ofx (o:=.row 1 n.N.length ((s2.2 11).map fun x=>ii x) 3) (qB _ _)).symm,by omega,Os.h _⟩,⟨congrArg some (ofx (o:=.row 1 n.N.length ((s2.2 12).map fun x=>ii x) 3) (qB _ _)).symm,by omega,Os.h _⟩,⟨congrArg some (ofx (o:=.row 1 n.N.length ((s2.2 13).map fun x=>ii x) 3) (qB _ _)).symm,by omega,Os.h _⟩,⟨congrArg some (ofx (o:=.row 1 n.N.length ((s2.2 14).map fun x=>ii x) 3) (qB _ _)).symm,by omega,Os.h _⟩,⟨congrArg some (ofx (o:=.row 1 n.N.length ((s2.2 15).map fun x=>ii x) 3) (qB _ _)).symm,by omega,Os.h _⟩,⟨rfl,by omega,qE _ rfl⟩,⟨by rw[ofx (o:=.row 2 (O++spk ((i:Nat):Int) (o.take (j+1))).length ((O++spk ((i:Nat):Int) (o.take (j+1))).flatMap Evt.cells) 62) (zT _ _),spk_take hj,←List.append_assoc];generalize O++spk _ (o.take j)=Z;rw[List.length_append,List.flatMap_append];rfl,by omega,Os.h _⟩,⟨rfl,by omega,Os.h _⟩,⟨congrArg some (jK hcov (fun i hi=>zG (zA (B:=3) rfl hi))).symm,by omega,pnx hcov rfl⟩,trivial⟩
    ·intro p hp
     have:=hHL p hp
     exact⟨zG (zA (B:=26) rfl this.2.1),by omega⟩
   ·intro _
    have hol:(O++spk ((i:Nat):Int) (o.take o.length)).length≤65536:=by
     rw[←eO]
     exact Nat.le_trans (nO_len n l (i+1)) (Nat.le_trans (Nat.mul_le_mul_right _ (by omega)) hK)
    refine Run.W1 (hc w1 LL none nofun) ?_
    conv=>whnf
    rw[decide_eq_false (show ¬((o.length:Nat):Int)<(o.length:Int)by omega)]
    conv=>whnf
    rw[decide_eq_false (show ¬(65536:Int)<((O++spk ((i:Nat):Int) (o.take o.length)).length:Int)by omega)]
    conv=>whnf
    rw[eO,hev,hs2]at ih
    refine Run.rC (T':=[(9,.ptr 5 0),(10,.ptr 26 0),(11,.opq 27),(27,ii (K:Int)),(28,ii ((i+1:Nat):Int))]) (M':=[(5,.cells [.opq 6,ii n.inp,.opq 25,.mp 7,ii ((i+1:Nat):Int),.opq 8,.opq 9,.opq 10,.opq 11,.opq 12,.opq 13,.opq 14,.opq 15,.opq 16,.opq 17,.opq 18,.opq 19,.opq 20,.opq 21,.opq 22,.opq 23,.opq 24] 170),(6,.rwin 8 n.N.length (n.N.flatMap Prm.vals)),(7,swS n.S),(8,.row 2 n.N.length (s2.1.flatMap Ste.cells) 139),(9,.row 1 n.N.length ((s2.2 0).map fun x=>ii x) 3),(10,.row 1 n.N.length ((s2.2 1).map fun x=>ii x) 3),(11,.row 1 n.N.length ((s2.2 2).map fun x=>ii x) 3),(12,.row 1 n.N.length ((s2.2 3).map fun x=>ii x) 3),(13,.row 1 n.N.length ((s2.2 4).map fun x=>ii x) 3),(14,.row 1 n.N.length ((s2.2 5).map fun x=>ii x) 3),(15,.row 1 n.N.length ((s2.2 6).map fun x=>ii x) 3),(16,.row 1 n.N.length ((s2.2 7).map fun x=>ii x) 3),(17,.row 1 n.N.length ((s2.2 8).map fun x=>ii x) 3),(18,.row 1 n.N.length ((s2.2 9).map fun x=>ii x) 3),(19,.row 1 n.N.length ((s2.2 10).map fun x=>ii x) 3),(20,.row 1 n.N.length ((s2.2 11).map fun x=>ii x) 3),(21,.row 1 n.N.length ((s2.2 12).map fun x=>ii x) 3),(22,.row 1 n.N.length ((s2.2 13).map fun x=>ii x) 3),(23,.row 1 n.N.length ((s2.2 14).map fun x=>ii x) 3),(24,.row 1 n.N.length ((s2.2 15).map fun x=>ii x) 3),(26,.cells [.opq 28] 128),(27,.row 2 (O++spk ((i:Nat):Int) (o.take o.length)).length ((O++spk ((i:Nat):Int) (o.take o.length)).flatMap Evt.cells) 62),(28,.rwin 2 (X.drop (nAt ((i:Nat):Int) X)).length ((X.drop (nAt ((i:Nat):Int) X)).flatMap Evt.vals)),(3,.pin plp)]) (rq [(28,30),(30,28)]) 29 ?_ ?_ ?_ ?_ (ih trivial)
    ·intro i hi j hj hne he
     have inv :∀i,i<29→rq [(28,30),(30,28)] (rq [(28,30),(30,28)] i)=i:=by decide
     exact hne (by rw[←inv i hi,he,inv j hj])
    ·exact⟨⟨rfl,ltb rfl⟩,⟨rfl,ltb rfl⟩,⟨rfl,ltb rfl⟩,⟨rfl,trivial⟩,⟨wsx (by omega),trivial⟩,trivial⟩
    ·exact⟨⟨rfl,by omega,qE _ rfl⟩,⟨rfl,by omega,Os.h _⟩,⟨rfl,by omega,Os.h _⟩,⟨congrArg some (ofx (o:=.row 2 n.N.length (s2.1.flatMap Ste.cells) 139) (qS _ _)).symm,by omega,Os.h _⟩,⟨congrArg some (ofx (o:=.row 1 n.N.length ((s2.2 0).map fun x=>ii x) 3) (qB _ _)).symm,by omega,Os.h _⟩,⟨congrArg some (ofx (o:=.row 1 n.N.length ((s2.2 1).map fun x=>ii x) 3) (qB _ _)).symm,by omega,Os.h _⟩,⟨congrArg some (ofx (o:=.row 1 n.N.length ((s2.2 2).map fun x=>ii x) 3) (qB _ _)).symm,by omega,Os.h _⟩,⟨congrArg some (ofx (o:=.row 1 n.N.length ((s2.2 3).map fun x=>ii x) 3) (qB _ _)).symm,by omega,Os.h _⟩,⟨congrArg some (ofx (o:=.row 1 n.N.length ((s2.2 4).map fun x=>ii x) 3) (qB _ _)).symm,by omega,Os.h _⟩,⟨congrArg some (ofx (o:=.row 1 n.N.length ((s2.2 5).map fun x=>ii x) 3) (qB _ _)).symm,by omega,Os.h _⟩,⟨congrArg some (ofx (o:=.row 1 n.N.length ((s2.2 6).map fun x=>ii x) 3) (qB _ _)).symm,by omega,Os.h _⟩,⟨congrArg some (ofx (o:=.row 1 n.N.length ((s2.2 7).map fun x=>ii x) 3) (qB _ _)).symm,by omega,Os.h _⟩,⟨congrArg some (ofx (o:=.row 1 n.N.length ((s2.2 8).map fun x=>ii x) 3) (qB _ _)).symm,by omega,Os.h _⟩,⟨congrArg some (ofx (o:=.row 1 n.N.length ((s2.2 9).map fun x=>ii x) 3) (qB _ _)).symm,by omega,Os.h _⟩,⟨congrArg some (ofx (o:=.row 1 n.N.length ((s2.2 10).map fun x=>ii x) 3) (qB _ _)).symm,by omega,Os.h _⟩,⟨congrArg some (ofx (o:=.row 1 n.N.length ((s2.2 11).map fun x=>ii x) 3) (qB _ _)).symm,by omega,Os.h _⟩,⟨congrArg some (ofx (o:=.row 1 n.N.length ((s2.2 12).map fun x=>ii x) 3) (qB _ _)).symm,by omega,Os.h _⟩,⟨congrArg some (ofx (o:=.row 1 n.N.length ((s2.2 13).map fun x=>ii x) 3) (qB _ _)).symm,by omega,Os.h _⟩,⟨congrArg some (ofx (o:=.row 1 n.N.length ((s2.2 14).map fun x=>ii x) 3) (qB _ _)).symm,by omega,Os.h _⟩,⟨congrArg some (ofx (o:=.row 1 n.N.length ((s2.2 15).map fun x=>ii x) 3) (qB _ _)).symm,by omega,Os.h _⟩,⟨rfl,by omega,qE _ rfl⟩,⟨congrArg some (ofx (o:=.row 2 (O++spk ((i:Nat):Int) (o.take o.length)).length ((O++spk ((i:Nat):Int) (o.take o.length)).flatMap Evt.cells) 62) (zT _ _)).symm,by omega,Os.h _⟩,⟨rfl,by omega,Os.h _⟩,⟨congrArg some (jK hcov (fun i hi=>zG (zA (B:=3) rfl hi))).symm,by omega,pnx hcov rfl⟩,trivial⟩
    ·intro p hp
     have:=hHL p hp
     exact⟨zG (zA (B:=26) rfl this.2.1),by omega⟩
 ·intro _
  refine Run.W1 (hc w1 LL none nofun) ?_
  conv=>whnf
  rw[decide_eq_false (show ¬((K:Nat):Int)<(K:Int)by omega)]
  conv=>whnf
  rw[←hRR]
  exact⟨fun ρ w' hW hsc=>(SpecR.intro (v:=.tup [.opq 3,ii 0]) (M1:=[(3,.row 2 (nO n l K).length ((nO n l K).flatMap Evt.cells) 62)]) (n1:=4) (c:=⟨Try.prog,tab,[],24,Try.f24,[],w,[],none⟩) (M:=[(27,.row 2 (nO n l K).length ((nO n l K).flatMap Evt.cells) 62),(3,.pin plp)]) (n:=29) (v0:=.tup [.opq 27,ii 0]) 27 (by decide) (fun p hp=>by cases hp) (by decide) hcov rfl rfl ⟨(show 3<4 by decide),trivial,trivial⟩ ⟨⟨congrArg some (ofx (o:=.row 2 (nO n l K).length ((nO n l K).flatMap Evt.cells) 62) (zT _ _)).symm,by omega,Os.h _⟩,trivial⟩).h ρ w' (hW.back hEE (fun p hp=>(hHL p hp).2.2) _ (AllP.mem ⟨⟨rfl,rfl⟩,⟨rfl,rfl⟩,trivial⟩)) hsc⟩
set_option maxHeartbeats 16000000
def stiR (r:Rul):Rul:=if r.kind=1 then { r with up:=0,down:=0 }else r
def stiY (rs:List Rul)(i:Nat):List Rul:=(rs.take i).map stiR++rs.drop i
theorem stiY_len (rs:List Rul)(i:Nat):(stiY rs i).length=rs.length:=by
 unfold stiY;simp;omega
theorem stiY_get (rs:List Rul){i:Nat}(hi:i<rs.length):(stiY rs i)[i]'(by rw[stiY_len];exact hi)=rs[i]:=by
 unfold stiY
 rw[List.getElem_append_right (by simp;omega)]
 simp only[List.length_map,List.length_take,List.getElem_drop]
 congr 1
 omega
theorem stiY_succ (rs:List Rul){i:Nat}(hi:i<rs.length):stiY rs (i+1)=(stiY rs i).set i (stiR rs[i]):=by
 unfold stiY
 rw[List.set_append_right _ _ (by simp;omega)]
 have e:rs.drop i=rs[i]::rs.drop (i+1):=List.drop_eq_getElem_cons hi
 rw[←List.take_append_getElem hi,List.map_append,List.append_assoc,e]
 simp only[List.length_map,List.length_take,show min i rs.length=i by omega,Nat.sub_self,List.set_cons_zero]
 rfl
theorem stiR_ok (rs:List Rul) :∀r∈rs.map stiR,r.kind=1→r.up=0∧r.down=0:=by
 intro r hr
 obtain⟨a,_,rfl⟩:=List.mem_map.1 hr
 unfold stiR
 split
 ·exact fun _=>⟨rfl,rfl⟩
 ·rename_i h;exact fun h'=>absurd h' h
theorem learnStill_walk (w:World)(vN vS:Value)(n:Net)(hn:xU w vN vS n)(vR:Value)(rs:List Rul)(hr:RowsAt w vR 10 rs.length (rs.flatMap Rul.vals))(vP:Value)(pl:List Int)(hpl:RowsAt w vP 1 pl.length (qD pl))(vE:Value)(l:List Evt)(hE:RowsAt w vE 2 l.length (l.flatMap Evt.vals))(vZ:Value)(p:List Prz)(hZ:RowsAt w vZ 3 p.length (p.flatMap Prz.vals))(K:Int)(hrs:rs.length*80≤140737488355328) :
  Calls Try.prog 6 #[caseV vN vS vR vP vE vZ n K] w fun e w'=>e = .returned (.bool true)∧Ext w w':=by
 have hpf:PF.oks Try.prog [(2000,fun _ _=>none)]:=⟨trivial,trivial⟩
 have hc :∀w L' rd,(∀p,rd=some p→p∈L')→Cx.ok ⟨Try.prog,tab,[(2000,fun _ _=>none)],6,Try.f6,[],w,L',rd⟩:=fun w L' rd h=>⟨qI,hpf,Try.func6,mixed,h⟩
 obtain⟨hn1,hn2⟩:=hn
 have hrows:AllP (fun x:Value×Nat×Nat×List Value=>RowsAt w x.1 x.2.1 x.2.2.1 x.2.2.2) [(vN,8,n.N.length,n.N.flatMap Prm.vals),(vS,4,n.S.length,n.S.flatMap Syn.vals),(vR,10,rs.length,rs.flatMap Rul.vals),(vP,1,pl.length,qD pl),(vE,2,l.length,l.flatMap Evt.vals),(vZ,3,p.length,p.flatMap Prz.vals)]:=⟨hn1,hn2,hr,hpl,hE,hZ,trivial⟩
 have hrl2:rs.length<9223372036854775808:=by omega
 refine Run.rH (tab:=tab) (pf:=[(2000,fun _ _=>none)]) (cuts:=[]) Try.func6 rfl _ hrows [.agg [.opq 0,ii n.inp,.opq 1,.opq 2,.opq 3,.opq 4,.opq 5,ii K]] [caseV vN vS vR vP vE vZ n K] [(0,.rwin 8 n.N.length (n.N.flatMap Prm.vals)),(1,.rwin 4 n.S.length (n.S.flatMap Syn.vals)),(2,.rwin 10 rs.length (rs.flatMap Rul.vals)),(3,.rwin 1 pl.length (qD pl)),(4,.rwin 2 l.length (l.flatMap Evt.vals)),(5,.rwin 3 p.length (p.flatMap Prz.vals))] 6 rfl rfl (by show [Value.agg [(SV.opq 0).conc _,.int .i64 n.inp,(SV.opq 1).conc _,(SV.opq 2).conc _,(SV.opq 3).conc _,(SV.opq 4).conc _,(SV.opq 5).conc _,.int .i64 K].toArray]=_;rw[qM hrows (k:=0) rfl,qM hrows (k:=1) rfl,qM hrows (k:=2) rfl,qM hrows (k:=3) rfl,qM hrows (k:=4) rfl,qM hrows (k:=5) rfl];rfl) (by simp[SV.scs,SV.sc]) rfl (Run.s0 (hc w [] none nofun) 100 _ ?_)
 conv=>whnf
 refine Run.appendC (hc w [] none nofun) (j:=7) (e:=10) (te:=36) rfl rfl rfl rfl rfl rfl rfl (fun ρ w1 hW=>hW.rowsAt rfl) (one_rul rs) rfl rfl rfl rfl (by decide) ⟨by omega,by omega⟩ [(6,.cells [.opq 0,ii n.inp,.opq 1,.opq 2,.opq 3,.opq 4,.opq 5,ii K] 45),(0,.rwin 8 n.N.length (n.N.flatMap Prm.vals)),(1,.rwin 4 n.S.length (n.S.flatMap Syn.vals)),(2,.rwin 10 rs.length (rs.flatMap Rul.vals)),(3,.rwin 1 pl.length (qD pl)),(4,.rwin 2 l.length (l.flatMap Evt.vals)),(5,.rwin 3 p.length (p.flatMap Prz.vals))] (by repeat first|exact trivial|refine⟨⟨rfl,(neb rfl)⟩,?_⟩) ?_
 refine Run.W1 (hc w [] none nofun) ?_
 conv=>whnf
 refine Run.s6 (T':=[(1,.ptr 6 0),(3,ii (((0:Nat):Nat):Int))]) (M':=[(8,.row 10 rs.length ((stiY rs (0:Nat)).flatMap Rul.cells) 36),(6,.cells [.opq 0,ii n.inp,.opq 1,.opq 8,.opq 3,.opq 4,.opq 5,ii K] 45),(0,.rwin 8 n.N.length (n.N.flatMap Prm.vals)),(1,.rwin 4 n.S.length (n.S.flatMap Syn.vals)),(2,.rwin 10 rs.length (rs.flatMap Rul.vals)),(3,.rwin 1 pl.length (qD pl)),(4,.rwin 2 l.length (l.flatMap Evt.vals))]) 9 ⟨⟨rfl,ltb rfl⟩,⟨rfl,trivial⟩,trivial⟩ (by repeat first|exact trivial|refine⟨⟨rfl,by omega,qE _ rfl⟩,?_⟩|refine⟨⟨rfl,by omega,Os.h _⟩,?_⟩|refine⟨⟨by rw[show stiY rs 0=rs from rfl,ruls_v];rfl,by omega,scs_ruls _ _⟩,?_⟩) (fun p hp=>by cases hp) ?_
 refine Run.rD (T:=fun i=>[(1,.ptr 6 0),(3,ii ((i:Nat):Int))]) (M:=fun i=>[(8,.row 10 rs.length ((stiY rs i).flatMap Rul.cells) 36),(6,.cells [.opq 0,ii n.inp,.opq 1,.opq 8,.opq 3,.opq 4,.opq 5,ii K] 45),(0,.rwin 8 n.N.length (n.N.flatMap Prm.vals)),(1,.rwin 4 n.S.length (n.S.flatMap Syn.vals)),(2,.rwin 10 rs.length (rs.flatMap Rul.vals)),(3,.rwin 1 pl.length (qD pl)),(4,.rwin 2 l.length (l.flatMap Evt.vals))]) (fun _=>True) (rs.length) (trivial) ?_ ?_
 ·intro i hi hJ ih
  refine Run.W1 (hc w [] none nofun) ?_
  conv=>whnf
  rw[decide_eq_true (show((i:Nat):Int)<(rs.length:Int)by omega)]
  conv=>whnf
  have hYl:=stiY_len rs i
  have hYg:=stiY_get rs hi
  obtain⟨Y,hY⟩ :∃Y,stiY rs i=Y:=⟨_,rfl⟩
  have hYs:=stiY_succ rs hi
  simp only[hY]at hYl hYg hYs
  rw[hY]
  conv=>whnf
  have hiY:i<Y.length:=by omega
  obtain⟨r0,hr0⟩ :∃r0,rs[i]=r0:=⟨_,rfl⟩
  rw[hr0]at hYg hYs
  refine⟨by omega,?_⟩
  conv=>whnf
  rw[yM (f:=Rul.cells) (l:=Y) (c:=ii Y[i].kind) i 0 rfl rfl rfl rfl Rul.clen (by rw[qQ]) hiY (by decide) rfl,hYg]
  conv=>whnf
  cases hk:r0.kind==1
  ·conv=>whnf
   have hs2:Y=stiY rs (i+1):=by
    rw[hYs]
    unfold stiR
    rw[if_neg (by simpa using hk),←hYg,List.set_getElem_self]
   rw[hs2]
   exact Run.s6 (T':=[(1,.ptr 6 0),(3,ii (((i+1:Nat):Nat):Int))]) (M':=[(8,.row 10 rs.length ((stiY rs (i+1:Nat)).flatMap Rul.cells) 36),(6,.cells [.opq 0,ii n.inp,.opq 1,.opq 8,.opq 3,.opq 4,.opq 5,ii K] 45),(0,.rwin 8 n.N.length (n.N.flatMap Prm.vals)),(1,.rwin 4 n.S.length (n.S.flatMap Syn.vals)),(2,.rwin 10 rs.length (rs.flatMap Rul.vals)),(3,.rwin 1 pl.length (qD pl)),(4,.rwin 2 l.length (l.flatMap Evt.vals))]) 9 ⟨⟨rfl,ltb rfl⟩,⟨wsx (by omega),trivial⟩,trivial⟩ (by repeat first|exact trivial|refine⟨⟨rfl,by omega,scs_ruls _ _⟩,?_⟩|refine⟨⟨rfl,by omega,qE _ rfl⟩,?_⟩|refine⟨⟨rfl,by omega,Os.h _⟩,?_⟩) (fun p hp=>by cases hp) (ih trivial)
  ·conv=>whnf
   refine Run.draw (hc w [] none nofun) 12 ?_
   rw[show qG 0 12=qG 0 9++qG 9 3 from rfl]
   simp only[qV]
   conv=>whnf
   refine⟨by omega,?_⟩
   conv=>whnf
   rw[yT (f:=Rul.cells) (l:=Y) i 1 { r0 with up:=0 } rfl rfl rfl rfl rfl Rul.clen (by rw[qQ]) hiY (by decide) rfl rfl (by rw[hYg];rfl)]
   conv=>whnf
   refine⟨by omega,?_⟩
   conv=>whnf
   rw[yT (f:=Rul.cells) (l:=Y.set i { r0 with up:=0 }) i 2 { r0 with up:=0,down:=0 } rfl rfl rfl rfl rfl Rul.clen (by rw[qQ]) (by rw[List.length_set];exact hiY) (by decide) rfl rfl (by rw[List.getElem_set_self];rfl),List.set_set]
   conv=>whnf
   refine⟨by kernel_rfl,?_⟩
   refine Run.W1 (hc w [] none nofun) ?_
   conv=>whnf
   have hs2:Y.set i { r0 with up:=0,down:=0 }=stiY rs (i+1):=by
    rw[hYs]
    unfold stiR
    rw[if_pos (by simpa using hk)]
   rw[hs2]
   exact Run.s6 (T':=[(1,.ptr 6 0),(3,ii (((i+1:Nat):Nat):Int))]) (M':=[(8,.row 10 rs.length ((stiY rs (i+1:Nat)).flatMap Rul.cells) 36),(6,.cells [.opq 0,ii n.inp,.opq 1,.opq 8,.opq 3,.opq 4,.opq 5,ii K] 45),(0,.rwin 8 n.N.length (n.N.flatMap Prm.vals)),(1,.rwin 4 n.S.length (n.S.flatMap Syn.vals)),(2,.rwin 10 rs.length (rs.flatMap Rul.vals)),(3,.rwin 1 pl.length (qD pl)),(4,.rwin 2 l.length (l.flatMap Evt.vals))]) 9 ⟨⟨rfl,ltb rfl⟩,⟨wsx (by omega),trivial⟩,trivial⟩ (by repeat first|exact trivial|refine⟨⟨rfl,by omega,scs_ruls _ _⟩,?_⟩|refine⟨⟨rfl,by omega,qE _ rfl⟩,?_⟩|refine⟨⟨rfl,by omega,Os.h _⟩,?_⟩) (fun p hp=>by cases hp) (ih trivial)
 ·intro hJ
  refine Run.W1 (hc w [] none nofun) ?_
  conv=>whnf
  rw[decide_eq_false (show ¬((rs.length:Nat):Int)<(rs.length:Int)by omega)]
  conv=>whnf
  rw[show stiY rs rs.length=rs.map stiR by unfold stiY;simp]
  have hok0:=stiR_ok rs
  obtain⟨R',hR'⟩ :∃R',rs.map stiR=R':=⟨_,rfl⟩
  have hRl:rs.length=R'.length:=by rw[←hR',List.length_map]
  rw[hR',hRl]
  rw[hR']at hok0
  conv=>whnf
  refine Run.rB (g:=23) (vs:=[.agg [.opq 0,ii n.inp,.opq 1,.opq 8,.opq 3,.opq 4,nq,ii K]]) (caps:=[]) (.v (.bool (xI n R' pl l [] K))) (fun ρ w1 hW=>by
   have h8:=hW.rowsAtR (i:=8) rfl (by decide)
   rw[ruls_v,zN]at h8
   exact small_run _ _ n _ R' _ pl _ l _ [] K w1 ⟨hW.rowsAt (i:=0) rfl,hW.rowsAt (i:=1) rfl⟩ h8 (hW.rowsAt (i:=3) rfl) (hW.rowsAt (i:=4) rfl) ⟨rfl,none,0,rfl,Nat.le_refl _,.inl rfl⟩) (ent _ _ Try.func23 (by kernel_rfl) rfl) rfl rfl rfl rfl rfl rfl rfl trivial ?_
  cases hsm:xI n R' pl l [] K
  case false=>
   refine Run.W1 (hc w [] none nofun) ?_
   conv=>whnf
   refine Run.rB (g:=14) (vs:=[]) (caps:=[]) (.v (.bool true)) (fun ρ w1 hW=>works_run w1) (ent _ _ Try.func14 (by kernel_rfl) rfl) rfl rfl rfl rfl rfl rfl rfl trivial ?_
   refine Run.W1 (hc w [] none nofun) ?_
   conv=>whnf
   exact⟨fun ρ w' hW _=>⟨rfl,hW.toExt⟩⟩
  have hok:=small_ok hsm
  obtain⟨x,rfl,rfl,rfl⟩ :∃x:Lnt,x.n=n∧x.rs=R'∧x.pl=pl:=⟨⟨n,R',pl⟩,rfl,rfl,rfl⟩
  obtain⟨KN,rfl⟩:=Int.eq_ofNat_of_zero_le hok.K0
  have hK1:=hok.K1
  have hK2:KN≤200:=by omega
  have hx:NetOK x:=uH hok.chk
  have hx1:=hx.N2
  have hxN:=hx.N1
  have hx2:=hx.S1
  have hx3:=hx.rl
  have hx4:x.pl.length=x.n.S.length:=hx.lpl
  have hKN:KN*x.n.N.length≤65536:=Nat.le_trans (Nat.mul_le_mul hK2 hok.N) (by decide)
  obtain⟨hp2,hO2,hS2⟩:=still hok.chk hok0 hok.prep
  have hT:=sE x l KN hok.chk hok.prep hKN
  have hNR:=nRun_ok x.n l KN hp2 hKN
  have hOl:(trO x l [] KN).length≤65536:=Nat.le_trans (trO_len x l [] KN) hKN
  rw[hS2]at hT
  rw[←hO2]at hNR
  obtain⟨O,hO⟩ :∃O,trO x l [] KN=O:=⟨_,rfl⟩
  rw[hO]at hT hNR hOl
  refine Run.W1 (hc w [] none nofun) ?_
  conv=>whnf
  refine Run.rI (vs:=[.agg [.opq 0,ii x.n.inp,.opq 1],.opq 2,.opq 3,.opq 4,nq,ii (KN:Int)]) (caps:=[]) (caps2:=[]) hT (ent _ _ Try.func20 (by kernel_rfl) rfl) rfl rfl rfl rfl rfl rfl [.agg [.opq 0,ii x.n.inp,.opq 1],.opq 8,.opq 3,.opq 4,nq,ii (KN:Int)] rfl (rq [(2,8),(8,2)]) rfl (fun q hq=>by have inv :∀q,q<6→rq [(2,8),(8,2)] q<9:=(by decide);exact inv q hq) (fun q hq j hj hne=>by have inj :∀i,i<6 → ∀j,j<6→i≠j→rq [(2,8),(8,2)] i≠rq [(2,8),(8,2)] j:=(by decide);exact inj q hq j hj hne) (by decide) (by repeat first|exact trivial|refine⟨⟨by omega,trivial,⟨_,rfl,Conv.refl _⟩,.inl rfl,fun _=>by simp⟩,?_⟩|refine⟨⟨by omega,trivial,⟨_,rfl,Conv.row (by decide) (ruls_v _)⟩,.inl rfl,fun _=>by simp⟩,?_⟩) (fun i hi=>by cases hi) (.tup [.opq 9,.agg [.opq 10,ii x.n.inp,.opq 11],ii 0]) [(9,.row 2 O.length (O.flatMap Evt.cells) 62),(10,.row 8 x.n.N.length ((x.n.N.flatMap Prm.vals).map .v) 60),(11,.row 4 x.n.S.length (x.n.S.flatMap Syn.cells) 55),(8,.row 10 x.rs.length (x.rs.flatMap Rul.cells) 36),(6,.cells [.opq 0,ii x.n.inp,.opq 1,.opq 8,.opq 3,.opq 4,nq,ii (KN:Int)] 45),(0,.rwin 8 x.n.N.length (x.n.N.flatMap Prm.vals)),(1,.rwin 4 x.n.S.length (x.n.S.flatMap Syn.vals)),(3,.rwin 1 x.pl.length (qD x.pl)),(4,.rwin 2 l.length (l.flatMap Evt.vals))] 12 rfl rfl (by repeat first|exact trivial|refine⟨.inr ⟨6,_,rfl,rfl,(ofx (o:=.row 2 O.length (O.flatMap Evt.cells) 62) (zT _ _)).symm,rfl⟩,?_⟩|refine⟨.inr ⟨7,_,rfl,rfl,(ofx (o:=.row 8 x.n.N.length ((x.n.N.flatMap Prm.vals).map .v) 60) (qL _ _)).symm,rfl⟩,?_⟩|refine⟨.inr ⟨8,_,rfl,rfl,(ofx (o:=.row 4 x.n.S.length (x.n.S.flatMap Syn.cells) 55) (yH _ _)).symm,rfl⟩,?_⟩|refine⟨.inl ⟨rfl,by simp⟩,?_⟩) ?_
  refine Run.W1 (hc w [] none nofun) ?_
  conv=>whnf
  refine Run.rI (vs:=[.agg [.opq 0,ii x.n.inp,.opq 1],.opq 2,ii (KN:Int)]) (caps:=[]) (caps2:=[]) hNR (ent _ _ Try.func24 (by kernel_rfl) rfl) rfl rfl rfl rfl rfl rfl [.agg [.opq 0,ii x.n.inp,.opq 1],.opq 4,ii (KN:Int)] rfl (rq [(2,4),(4,2)]) rfl (fun q hq=>by have inv :∀q,q<3→rq [(2,4),(4,2)] q<13:=(by decide);exact inv q hq) (fun q hq j hj hne=>by have inj :∀i,i<3 → ∀j,j<3→i≠j→rq [(2,4),(4,2)] i≠rq [(2,4),(4,2)] j:=(by decide);exact inj q hq j hj hne) (by decide)
   ⟨⟨by omega,trivial,⟨_,rfl,Conv.refl _⟩,.inl rfl,fun _=>by simp⟩,⟨by omega,trivial,⟨_,rfl,Conv.refl _⟩,.inl rfl,fun _=>by simp⟩,⟨by omega,trivial,⟨_,rfl,Conv.refl _⟩,.inl rfl,fun _=>by simp⟩,trivial⟩ (fun i hi=>by cases hi) (.tup [.opq 13,ii 0]) [(13,.row 2 O.length (O.flatMap Evt.cells) 62),(12,.cells [.opq 10,ii x.n.inp,.opq 11] 25),(9,.row 2 O.length (O.flatMap Evt.cells) 62),(10,.row 8 x.n.N.length ((x.n.N.flatMap Prm.vals).map .v) 60),(11,.row 4 x.n.S.length (x.n.S.flatMap Syn.cells) 55),(8,.row 10 x.rs.length (x.rs.flatMap Rul.cells) 36),(6,.cells [.opq 0,ii x.n.inp,.opq 1,.opq 8,.opq 3,.opq 4,nq,ii (KN:Int)] 45),(0,.rwin 8 x.n.N.length (x.n.N.flatMap Prm.vals)),(1,.rwin 4 x.n.S.length (x.n.S.flatMap Syn.vals)),(3,.rwin 1 x.pl.length (qD x.pl)),(4,.rwin 2 l.length (l.flatMap Evt.vals))] 14 rfl rfl (by repeat first|exact trivial|refine⟨.inr ⟨3,_,rfl,rfl,(ofx (o:=.row 2 O.length (O.flatMap Evt.cells) 62) (zT _ _)).symm,rfl⟩,?_⟩|refine⟨.inl ⟨rfl,by simp⟩,?_⟩) ?_
  refine Run.W1 (hc w [] none nofun) ?_
  conv=>whnf
  refine Run.rB (g:=22) (vs:=[.opq 9,.opq 13]) (caps:=[]) (.v (.bool true)) (fun ρ w1 hW=>by
   have q1:=hW.rowsAtR (i:=9) rfl (by decide)
   have q2:=hW.rowsAtR (i:=13) rfl (by decide)
   rw[evts_v,zN]at q1 q2
   have:=same_run _ _ O O w1 q1 q2 (by omega)
   rw[decide_eq_true rfl]at this
   exact this) (ent _ _ Try.func22 (by kernel_rfl) rfl) rfl rfl rfl rfl rfl rfl rfl trivial ?_
  refine Run.W1 (hc w [] none nofun) ?_
  conv=>whnf
  rw[show((x.n.S.length:Int) != (x.n.S.length:Int))=false by simp]
  conv=>whnf
  obtain⟨L,hL⟩ :∃L,x.n.S=L:=⟨_,rfl⟩
  rw[hL]at hx2 ⊢
  refine Run.s6 (T':=[(1,.ptr 6 0),(5,.ptr 12 0),(9,ii (((0:Nat):Nat):Int))]) (M':=[(12,.cells [.opq 10,ii x.n.inp,.opq 11] 25),(11,.row 4 L.length (L.flatMap Syn.cells) 55),(6,.cells [.opq 0,ii x.n.inp,.opq 1,.opq 8,.opq 3,.opq 4,nq,ii (KN:Int)] 45),(1,.rwin 4 L.length (L.flatMap Syn.vals))]) 14 ⟨⟨rfl,ltb rfl⟩,⟨rfl,ltb rfl⟩,⟨rfl,trivial⟩,trivial⟩ ⟨⟨rfl,by omega,qE _ rfl⟩,⟨rfl,by omega,Os.h _⟩,⟨rfl,by omega,qE _ rfl⟩,⟨rfl,by omega,Os.h _⟩,trivial⟩ (fun p hp=>by cases hp) ?_
  refine Run.rD (T:=fun i=>[(1,.ptr 6 0),(5,.ptr 12 0),(9,ii ((i:Nat):Int))]) (M:=fun i=>[(12,.cells [.opq 10,ii x.n.inp,.opq 11] 25),(11,.row 4 L.length (L.flatMap Syn.cells) 55),(6,.cells [.opq 0,ii x.n.inp,.opq 1,.opq 8,.opq 3,.opq 4,nq,ii (KN:Int)] 45),(1,.rwin 4 L.length (L.flatMap Syn.vals))]) (fun _=>True) (L.length) (trivial) ?_ ?_
  ·intro i hi hJ ih
   refine Run.W1 (hc w [] none nofun) ?_
   conv=>whnf
   rw[decide_eq_true (show((i:Nat):Int)<(L.length:Int)by omega)]
   conv=>whnf
   have hiL:i<L.length:=by omega
   obtain⟨y,hy⟩ :∃y,L[i]=y:=⟨_,rfl⟩
   refine Run.draw (hc w [] none nofun) 12 ?_
   rw[show qG 0 12=qG 0 5++(qG 5 6++qG 11 1)from rfl]
   simp only[qV]
   conv=>whnf
   refine⟨by omega,?_⟩
   conv=>whnf
   rw[wK (f:=Syn.cells) (l:=L) i rfl rfl rfl rfl rfl Syn.clen (by rw[qQ]) hiL]
   conv=>whnf
   refine⟨by omega,?_⟩
   conv=>whnf
   rw[jI (f:=Syn.vals) (l:=L) i rfl rfl rfl rfl rfl Syn.vlen (by rw[qQ]) hiL]
   conv=>whnf
   refine⟨by kernel_rfl,?_⟩
   refine Run.W1 (hc w [] none nofun) ?_
   conv=>whnf
   rw[hy,show(y.fr==y.fr&&(y.to==y.to&&(y.w==y.w&&(y.d==y.d&&true))))=true by simp]
   conv=>whnf
   exact Run.s6 (T':=[(1,.ptr 6 0),(5,.ptr 12 0),(9,ii (((i+1:Nat):Nat):Int))]) (M':=[(12,.cells [.opq 10,ii x.n.inp,.opq 11] 25),(11,.row 4 L.length (L.flatMap Syn.cells) 55),(6,.cells [.opq 0,ii x.n.inp,.opq 1,.opq 8,.opq 3,.opq 4,nq,ii (KN:Int)] 45),(1,.rwin 4 L.length (L.flatMap Syn.vals))]) 14 ⟨⟨rfl,ltb rfl⟩,⟨rfl,ltb rfl⟩,⟨wsx (by omega),trivial⟩,trivial⟩ ⟨⟨rfl,by omega,qE _ rfl⟩,⟨rfl,by omega,Os.h _⟩,⟨rfl,by omega,qE _ rfl⟩,⟨rfl,by omega,Os.h _⟩,trivial⟩ (fun p hp=>by cases hp) (ih (trivial))
  ·intro hJ
   refine Run.W1 (hc w [] none nofun) ?_
   conv=>whnf
   rw[decide_eq_false (show ¬((L.length:Nat):Int)<(L.length:Int)by omega)]
   conv=>whnf
   refine Run.rB (g:=14) (vs:=[]) (caps:=[]) (.v (.bool true)) (fun ρ w1 hW=>works_run w1) (ent _ _ Try.func14 (by kernel_rfl) rfl) rfl rfl rfl rfl rfl rfl rfl trivial ?_
   refine Run.W1 (hc w [] none nofun) ?_
   conv=>whnf
   exact⟨fun ρ w' hW _=>⟨rfl,hW.toExt⟩⟩
end Go.Proofs.Ytnnlpdgnlccbjaa
