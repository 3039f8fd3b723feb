/-
  Laws of the small executor, and walks of the functions that the statement reaches (part 11 of several, put together out of smaller texts).
  The conditions stand with each law.
-/
import Derived.Test.YtnnlpdgnlccbjaaMWj
namespace Go.Proofs.Ytnnlpdgnlccbjaa
open Go.Sx
set_option maxRecDepth 100000
set_option maxHeartbeats 8000000
def exEv:List Evt:=[⟨0,0⟩,⟨2,1⟩]
abbrev pfTrd:PF:=[(34+1000,FPl),(41+1000,FFi)]
theorem pfTrd_ok:PF.oks Try.prog pfTrd:=⟨mk_plastic,mk_first,trivial⟩
def trdX (n:Net) (r:Rul) (more:List Int):Lnt:=⟨n,[r],[-1,-1,0]++more⟩
/-- Whether the weights from the third one on are these. -/
def trdB (n:Net) (r:Rul) (pz:List Prz) (more ws:List Int):Bool:=decide (∀ i,i<ws.length→((nowL n.S (trS (trdX n r more) exEv pz 10).m).getD (2+i) syn0).w=ws.getD i 0)
theorem trained_run (vN vS:Value) (n:Net) (r:Rul) (vZ:Value) (pz:List Prz) (vM:Value) (more:List Int) (vW:Value) (ws:List Int) (w:World) (hn:IsNet w vN vS n) (hz:RowsAt w vZ 3 pz.length (pz.flatMap Prz.vals)) (hm:RowsAt w vM 1 more.length (ints more)) (hw:RowsAt w vW 1 ws.length (ints ws))
  (hml:more.length≤1000) (hS:n.S.length=2+ws.length) (h:learnChk n [r] ([-1,-1,0]++more)=0) (hp:prepChk ⟨[prm1],n.inp,[]⟩ exEv 10 10000=0) (hpz:pzsChk 1 pz=0) :
  Calls Try.prog 35 #[netV vN vS n,r.sv.conc env0,vZ,vM,vW] w fun e w'=>e = .returned (.bool (trdB n r pz more ws))∧Ext w w':=by
 have hc : ∀ L' rd,(∀ p,rd=some p→p∈L')→Cx.ok ⟨Try.prog,tab,pfTrd,35,Try.f35,[],w,L',rd⟩:=fun L' rd h=>⟨tab_ok,pfTrd_ok,Try.func35,mixed,h⟩
 obtain ⟨h1,h2⟩:=hn
 obtain ⟨N,inp,S⟩:=n
 simp only at h1 h2 hS hp
 have hx:NetOK (trdX ⟨N,inp,S⟩ r more):=netOK_of h
 have hrows:AllP (fun x:Value × Nat × Nat × List Value=>RowsAt w x.1 x.2.1 x.2.2.1 x.2.2.2) [(vN,8,N.length,N.flatMap Prm.vals),(vS,4,S.length,S.flatMap Syn.vals),(vZ,3,pz.length,pz.flatMap Prz.vals),(vM,1,more.length,ints more),(vW,1,ws.length,ints ws)]:=⟨h1,h2,hz,hm,hw,trivial⟩
 have hx1:N.length≤1024:=hx.N2
 have hx2:S.length≤8192:=hx.S1
 have hK:10*N.length≤65536:=by omega
 refine Run.startW Try.func35 rfl _ hrows [.agg [.opq 0,ii inp,.opq 1],.agg (r.vals.map .v),.opq 2,.opq 3,.opq 4] [netV vN vS ⟨N,inp,S⟩,r.sv.conc env0,vZ,vM,vW] [(0,.rwin 8 N.length (N.flatMap Prm.vals)),(1,.rwin 4 S.length (S.flatMap Syn.vals)),(2,.rwin 3 pz.length (pz.flatMap Prz.vals)),(3,.rwin 1 more.length (ints more)),(4,.rwin 1 ws.length (ints ws))] 5 rfl rfl
  (by show [Value.agg [(SV.opq 0).conc _,.int .i64 inp,(SV.opq 1).conc _].toArray,(SV.agg (r.vals.map .v)).conc _,(SV.opq 2).conc _,(SV.opq 3).conc _,(SV.opq 4).conc _]=_; rw [conc_rows hrows (k:=0) rfl,conc_rows hrows (k:=1) rfl,conc_rows hrows (k:=2) rfl,conc_rows hrows (k:=3) rfl,conc_rows hrows (k:=4) rfl]; rfl) (by simp [SV.scs,SV.sc,scs_v]) rfl (Run.of_wpK (hc [] none (fun _ h=>by cases h)) 1000 _ ?_)
 conv=>whnf
 apply joinL [(4,.opq 4),(5,.ptr 5 0),(12,.ptr 19 0),(13,ii 0)] [(19,.cells [.opq 25,ii inp,.opq 26] 25),(5,.cells [.opq 0,ii inp,.opq 1] 25),(1,.rwin 4 S.length (S.flatMap Syn.vals)),(4,.rwin 1 ws.length (ints ws)),(26,.row 4 S.length ((nowL S (trS (trdX ⟨N,inp,S⟩ r more) exEv pz 10).m).flatMap Syn.cells) 55)] 43
 ·intro tail
  refine Run.draw0 (hc [] none (fun _ h=>by cases h)) fun l0 hl0 => ?_
  have hlin:=Lin.ofGo [0,1,2,3,4,5,6,7,8,9,10,11,12,13,14,15] hl0 rfl (by decide)
  apply joinA [(12,.ptr 19 0),(4,.opq 4),(5,.ptr 5 0),(16,.agg [.opq 0,ii inp,.opq 1]),(18,.slc 9 0 1 1),(20,.opq 11),(21,.opq 12),(22,.opq 2)] [(19,.cells [.v (.slice none 0 0),ii 0,.v (.slice none 0 0)] 25),(9,.cells (r.vals.map .v) 36),(11,.row 1 (more.length+3) ([ii (-1),ii (-1),ii 0]++(ints more).map .v) 3),(12,.row 2 2 [ii 0,ii 0,ii 2,ii 1] 62),(5,.cells [.opq 0,ii inp,.opq 1] 25),(0,.rwin 8 N.length (N.flatMap Prm.vals)),(1,.rwin 4 S.length (S.flatMap Syn.vals)),(2,.rwin 3 pz.length (pz.flatMap Prz.vals)),(3,.rwin 1 more.length (ints more)),(4,.rwin 1 ws.length (ints ws))] 23 [7,8,9,10,11,13,14,15]
  ·intro g1
   refine Run.drawQ (hc [] none (fun _ h=>by cases h)) [0,1,2,3,4,5,6] [12] [7,8,9,10,11,13,14,15] hlin ?_
   rw [show ([0,1,2,3,4,5,6]++[12]:List Nat)=upto 0 5++[5,6,12] from rfl]
   simp only [drawK_app]
   conv=>whnf
   rw [opF_callM (F:=FPl) rfl rfl rfl rfl rfl (FPl_win rfl hml)]
   conv=>whnf
   refine ⟨by kernel_rfl,fun l1 hl1 => ?_,.inr ⟨[(4,.opq 4),(5,.ptr 5 0),(16,.agg [.opq 0,ii inp,.opq 1]),(18,.slc 9 0 1 1),(20,.opq 11),(21,.opq 12),(22,.opq 2)],[(9,.cells (r.vals.map .v) 36),(11,.row 1 (more.length+3) ([ii (-1),ii (-1),ii 0]++(ints more).map .v) 3),(12,.row 2 2 [ii 0,ii 0,ii 2,ii 1] 62),(5,.cells [.opq 0,ii inp,.opq 1] 25),(0,.rwin 8 N.length (N.flatMap Prm.vals)),(1,.rwin 4 S.length (S.flatMap Syn.vals)),(2,.rwin 3 pz.length (pz.flatMap Prz.vals)),(3,.rwin 1 more.length (ints more)),(4,.rwin 1 ws.length (ints ws))],by kernel_rfl,⟨rfl,rfl,rfl,rfl,rfl,rfl,rfl,trivial⟩,⟨rfl,rfl,rfl,rfl,rfl,rfl,rfl,rfl,rfl,trivial⟩,fun l1 hl1 => ?_⟩⟩
   ·exact Run.trim (T':=[(12,.ptr 19 0),(4,.opq 4),(5,.ptr 5 0),(16,.agg [.opq 0,ii inp,.opq 1]),(18,.slc 9 0 1 1),(20,.opq 11),(21,.opq 12),(22,.opq 2)]) (M':=[(19,.cells [.v (.slice none 0 0),ii 0,.v (.slice none 0 0)] 25),(9,.cells (r.vals.map .v) 36),(11,.row 1 (more.length+3) ([ii (-1),ii (-1),ii 0]++(ints more).map .v) 3),(12,.row 2 2 [ii 0,ii 0,ii 2,ii 1] 62),(5,.cells [.opq 0,ii inp,.opq 1] 25),(0,.rwin 8 N.length (N.flatMap Prm.vals)),(1,.rwin 4 S.length (S.flatMap Syn.vals)),(2,.rwin 3 pz.length (pz.flatMap Prz.vals)),(3,.rwin 1 more.length (ints more)),(4,.rwin 1 ws.length (ints ws))]) 23 ⟨⟨rfl,(show 19<23 by decide)⟩,⟨rfl,(show 4<23 by decide)⟩,⟨rfl,(show 5<23 by decide)⟩,⟨rfl,⟨(show 0<23 by decide),trivial,(show 1<23 by decide),trivial⟩⟩,⟨rfl,(show 9<23 by decide)⟩,⟨rfl,(show 11<23 by decide)⟩,⟨rfl,(show 12<23 by decide)⟩,⟨rfl,(show 2<23 by decide)⟩,trivial⟩ ⟨⟨rfl,by omega,by simp [SObj.sc,SV.scs,SV.sc]⟩,⟨rfl,by omega,scs_v _ _⟩,⟨rfl,by omega,scs_append (by simp [SV.scs,SV.sc]) (scs_v _ _)⟩,⟨rfl,by omega,by simp [SObj.sc,SV.scs,SV.sc]⟩,⟨rfl,by omega,by simp [SObj.sc,SV.scs,SV.sc]⟩,⟨rfl,by omega,trivial⟩,⟨rfl,by omega,trivial⟩,⟨rfl,by omega,trivial⟩,⟨rfl,by omega,trivial⟩,⟨rfl,by omega,trivial⟩,trivial⟩ (fun p hp=>by cases hp) (g1 l1 hl1)
   ·obtain ⟨i,l2,rfl,hi,_,hl2⟩:=hl1.next [7,12] rfl rfl rfl
    have hi2:i=7∨i=12:=by simpa using hi
    rcases hi2 with rfl | rfl
    ·refine Run.slcRowE (T':=[(4,.opq 4),(5,.ptr 5 0),(16,.agg [.opq 0,ii inp,.opq 1]),(18,.opq 23),(20,.opq 11),(21,.opq 12),(22,.opq 2)]) (M':=[(11,.row 1 (more.length+3) ([ii (-1),ii (-1),ii 0]++(ints more).map .v) 3),(12,.row 2 2 [ii 0,ii 0,ii 2,ii 1] 62),(5,.cells [.opq 0,ii inp,.opq 1] 25),(0,.rwin 8 N.length (N.flatMap Prm.vals)),(1,.rwin 4 S.length (S.flatMap Syn.vals)),(2,.rwin 3 pz.length (pz.flatMap Prz.vals)),(3,.rwin 1 more.length (ints more)),(4,.rwin 1 ws.length (ints ws))]) 9 10 1 (r.vals.map .v) 36 rfl rfl (by omega) (AllP.mem ⟨.inl rfl,.inl rfl,.inl rfl,.inr ⟨rfl,rfl⟩,.inl rfl,.inl rfl,.inl rfl,trivial⟩) (AllP.mem ⟨⟨rfl,(show 11≠9 by decide)⟩,⟨rfl,(show 12≠9 by decide)⟩,⟨rfl,(show 5≠9 by decide)⟩,⟨rfl,(show 0≠9 by decide)⟩,⟨rfl,(show 1≠9 by decide)⟩,⟨rfl,(show 2≠9 by decide)⟩,⟨rfl,(show 3≠9 by decide)⟩,⟨rfl,(show 4≠9 by decide)⟩,trivial⟩) ?_
     refine Run.trim (T':=[(4,.opq 4),(5,.ptr 5 0),(16,.agg [.opq 0,ii inp,.opq 1]),(18,.opq 23),(20,.opq 11),(21,.opq 12),(22,.opq 2)]) (M':=[(23,.row 10 1 (r.vals.map .v) 36),(11,.row 1 (more.length+3) ([ii (-1),ii (-1),ii 0]++(ints more).map .v) 3),(12,.row 2 2 [ii 0,ii 0,ii 2,ii 1] 62),(5,.cells [.opq 0,ii inp,.opq 1] 25),(0,.rwin 8 N.length (N.flatMap Prm.vals)),(1,.rwin 4 S.length (S.flatMap Syn.vals)),(2,.rwin 3 pz.length (pz.flatMap Prz.vals)),(3,.rwin 1 more.length (ints more)),(4,.rwin 1 ws.length (ints ws))]) 24 ⟨⟨rfl,(show 4<24 by decide)⟩,⟨rfl,(show 5<24 by decide)⟩,⟨rfl,⟨(show 0<24 by decide),trivial,(show 1<24 by decide),trivial⟩⟩,⟨rfl,(show 23<24 by decide)⟩,⟨rfl,(show 11<24 by decide)⟩,⟨rfl,(show 12<24 by decide)⟩,⟨rfl,(show 2<24 by decide)⟩,trivial⟩ ⟨⟨rfl,by omega,scs_v _ _⟩,⟨rfl,by omega,scs_append (by simp [SV.scs,SV.sc]) (scs_v _ _)⟩,⟨rfl,by omega,by simp [SObj.sc,SV.scs,SV.sc]⟩,⟨rfl,by omega,by simp [SObj.sc,SV.scs,SV.sc]⟩,⟨rfl,by omega,trivial⟩,⟨rfl,by omega,trivial⟩,⟨rfl,by omega,trivial⟩,⟨rfl,by omega,trivial⟩,⟨rfl,by omega,trivial⟩,trivial⟩ (fun p hp=>by cases hp) ?_
     refine Run.callR (vs:=[.agg [.opq 0,ii inp,.opq 1],.opq 2,.opq 3,.opq 4,.opq 5,ii 10]) (caps:=[]) (caps2:=[]) (train_ok (trdX ⟨N,inp,S⟩ r more) exEv pz 10 h hp hpz hK) (ent _ _ Try.func20 (by kernel_rfl) rfl) rfl rfl rfl rfl rfl rfl [.agg [.opq 0,ii inp,.opq 1],.opq 23,.opq 11,.opq 12,.opq 2,ii 10] rfl (rq [(2,23),(3,11),(4,12),(5,2)]) rfl (fun i hi=>by have inv : ∀ i,i<6→rq [(2,23),(3,11),(4,12),(5,2)] i<24:=(by decide); exact inv i hi) (fun i hi j hj hne=>by have inj : ∀ i,i<6 → ∀ j,j<6→i≠j→rq [(2,23),(3,11),(4,12),(5,2)] i≠rq [(2,23),(3,11),(4,12),(5,2)] j:=(by decide); exact inj i hi j hj hne) (by decide)
      ⟨⟨by omega,trivial,⟨_,rfl,Conv.refl _⟩,.inl rfl,fun _=>by simp⟩,⟨by omega,trivial,⟨_,rfl,Conv.refl _⟩,.inl rfl,fun _=>by simp⟩,⟨by omega,trivial,⟨_,rfl,Conv.row (by decide) rfl⟩,.inl rfl,fun _=>by simp⟩,⟨by omega,trivial,⟨_,rfl,Conv.row (by decide) rfl⟩,.inl rfl,fun _=>by simp⟩,⟨by omega,trivial,⟨_,rfl,Conv.row (by decide) rfl⟩,.inl rfl,fun _=>by simp⟩,⟨by omega,trivial,⟨_,rfl,Conv.refl _⟩,.inl rfl,fun _=>by simp⟩,trivial⟩ (fun i hi=>by cases hi) (.tup [.opq 24,.agg [.opq 25,ii inp,.opq 26],ii 0]) [(24,.row 2 (trO (trdX ⟨N,inp,S⟩ r more) exEv pz 10).length ((trO (trdX ⟨N,inp,S⟩ r more) exEv pz 10).flatMap Evt.cells) 62),(25,.row 8 N.length ((N.flatMap Prm.vals).map .v) 60),(26,.row 4 S.length ((nowL S (trS (trdX ⟨N,inp,S⟩ r more) exEv pz 10).m).flatMap Syn.cells) 55),(5,.cells [.opq 0,ii inp,.opq 1] 25),(1,.rwin 4 S.length (S.flatMap Syn.vals)),(4,.rwin 1 ws.length (ints ws))] 27 rfl rfl
      ⟨.inr ⟨6,_,rfl,rfl,(oren_fix (S:=fun _=>False) (fun i hi=>hi.elim) (o := .row 2 (trO (trdX ⟨N,inp,S⟩ r more) exEv pz 10).length ((trO (trdX ⟨N,inp,S⟩ r more) exEv pz 10).flatMap Evt.cells) 62) (scs_evts _ _)).symm,rfl⟩,.inr ⟨7,_,rfl,rfl,(oren_fix (S:=fun _=>False) (fun i hi=>hi.elim) (o := .row 8 N.length ((N.flatMap Prm.vals).map .v) 60) (scs_v _ _)).symm,rfl⟩,.inr ⟨8,_,rfl,rfl,(oren_fix (S:=fun _=>False) (fun i hi=>hi.elim) (o := .row 4 S.length ((nowL S (trS (trdX ⟨N,inp,S⟩ r more) exEv pz 10).m).flatMap Syn.cells) 55) (scs_syns _ _)).symm,rfl⟩,.inl ⟨rfl,fun i hi=>by cases hi⟩,.inl ⟨rfl,fun i hi=>by cases hi⟩,.inl ⟨rfl,fun i hi=>by cases hi⟩,trivial⟩ ?_
     refine Run.drawQ (hc [] none (fun _ h=>by cases h)) [8,9,10,11,12,13,14,15] [] [] hl2 ?_
     conv=>whnf
     refine ⟨by kernel_rfl,fun l3 hl3 => ?_,.inl rfl⟩
     obtain rfl:=hl3.nil
     refine Run.trimQ (T':=[(4,.opq 4),(5,.ptr 5 0),(12,.ptr 19 0),(13,ii 0)]) (M':=[(19,.cells [.opq 25,ii inp,.opq 26] 25),(5,.cells [.opq 0,ii inp,.opq 1] 25),(1,.rwin 4 S.length (S.flatMap Syn.vals)),(4,.rwin 1 ws.length (ints ws)),(26,.row 4 S.length ((nowL S (trS (trdX ⟨N,inp,S⟩ r more) exEv pz 10).m).flatMap Syn.cells) 55)]) (rq [(19,39),(39,19)]) 43 ?_ ?_ ?_ ?_ tail
     ·intro i hi j hj hne he
      have inv : ∀ i,i<43→rq [(19,39),(39,19)] (rq [(19,39),(39,19)] i)=i:=by decide
      exact hne (by rw [← inv i hi,he,inv j hj])
     ·exact ⟨⟨rfl,(show 4<43 by decide)⟩,⟨rfl,(show 5<43 by decide)⟩,⟨rfl,(show 19<43 by decide)⟩,⟨rfl,trivial⟩,trivial⟩
     ·exact ⟨⟨rfl,by omega,by simp [SObj.sc,SV.scs,SV.sc]⟩,⟨rfl,by omega,by simp [SObj.sc,SV.scs,SV.sc]⟩,⟨rfl,by omega,trivial⟩,⟨rfl,by omega,trivial⟩,⟨congrArg some (oren_fix (S:=fun _=>False) (fun i hi=>hi.elim) (o := .row 4 S.length ((nowL S (trS (trdX ⟨N,inp,S⟩ r more) exEv pz 10).m).flatMap Syn.cells) 55) (scs_syns _ _)).symm,by omega,scs_syns _ _⟩,trivial⟩
     ·intro p hp; cases hp
    ·refine Run.of_wpK (hc [] none (fun _ h=>by cases h)) 1 _ ?_
     conv=>whnf
     refine Run.trimQ (T':=[(12,.ptr 19 0),(4,.opq 4),(5,.ptr 5 0),(16,.agg [.opq 0,ii inp,.opq 1]),(18,.slc 9 0 1 1),(20,.opq 11),(21,.opq 12),(22,.opq 2)]) (M':=[(19,.cells [.v (.slice none 0 0),ii 0,.v (.slice none 0 0)] 25),(9,.cells (r.vals.map .v) 36),(11,.row 1 (more.length+3) ([ii (-1),ii (-1),ii 0]++(ints more).map .v) 3),(12,.row 2 2 [ii 0,ii 0,ii 2,ii 1] 62),(5,.cells [.opq 0,ii inp,.opq 1] 25),(0,.rwin 8 N.length (N.flatMap Prm.vals)),(1,.rwin 4 S.length (S.flatMap Syn.vals)),(2,.rwin 3 pz.length (pz.flatMap Prz.vals)),(3,.rwin 1 more.length (ints more)),(4,.rwin 1 ws.length (ints ws))]) (rq [(19,23),(23,19)]) 23 ?_ ?_ ?_ ?_ (g1 l2 hl2)
     ·intro i hi j hj hne he
      have inv : ∀ i,i<23→rq [(19,23),(23,19)] (rq [(19,23),(23,19)] i)=i:=by decide
      exact hne (by rw [← inv i hi,he,inv j hj])
     ·exact ⟨⟨rfl,(show 19<23 by decide)⟩,⟨rfl,(show 4<23 by decide)⟩,⟨rfl,(show 5<23 by decide)⟩,⟨rfl,⟨(show 0<23 by decide),trivial,(show 1<23 by decide),trivial⟩⟩,⟨rfl,(show 9<23 by decide)⟩,⟨rfl,(show 11<23 by decide)⟩,⟨rfl,(show 12<23 by decide)⟩,⟨rfl,(show 2<23 by decide)⟩,trivial⟩
     ·exact ⟨⟨rfl,by omega,by simp [SObj.sc,SV.scs,SV.sc]⟩,⟨congrArg some (oren_fix (S:=fun _=>False) (fun i hi=>hi.elim) (o := .cells (r.vals.map .v) 36) (scs_v _ _)).symm,by omega,scs_v _ _⟩,⟨congrArg some (oren_fix (S:=fun _=>False) (fun i hi=>hi.elim) (o := .row 1 (more.length+3) ([ii (-1),ii (-1),ii 0]++(ints more).map .v) 3) (scs_append (by simp [SV.scs,SV.sc]) (scs_v _ _))).symm,by omega,scs_append (by simp [SV.scs,SV.sc]) (scs_v _ _)⟩,⟨rfl,by omega,by simp [SObj.sc,SV.scs,SV.sc]⟩,⟨rfl,by omega,by simp [SObj.sc,SV.scs,SV.sc]⟩,⟨rfl,by omega,trivial⟩,⟨rfl,by omega,trivial⟩,⟨rfl,by omega,trivial⟩,⟨rfl,by omega,trivial⟩,⟨rfl,by omega,trivial⟩,trivial⟩
     ·intro p hp; cases hp
  ·intro l1 hl1
   obtain ⟨i,l2,rfl,hi,_,hl2⟩:=hl1.next [7] rfl rfl rfl
   obtain rfl:i=7:=by simpa using hi
   refine Run.slcRowE (T':=[(12,.ptr 19 0),(4,.opq 4),(5,.ptr 5 0),(16,.agg [.opq 0,ii inp,.opq 1]),(18,.opq 23),(20,.opq 11),(21,.opq 12),(22,.opq 2)]) (M':=[(19,.cells [.v (.slice none 0 0),ii 0,.v (.slice none 0 0)] 25),(11,.row 1 (more.length+3) ([ii (-1),ii (-1),ii 0]++(ints more).map .v) 3),(12,.row 2 2 [ii 0,ii 0,ii 2,ii 1] 62),(5,.cells [.opq 0,ii inp,.opq 1] 25),(0,.rwin 8 N.length (N.flatMap Prm.vals)),(1,.rwin 4 S.length (S.flatMap Syn.vals)),(2,.rwin 3 pz.length (pz.flatMap Prz.vals)),(3,.rwin 1 more.length (ints more)),(4,.rwin 1 ws.length (ints ws))]) 9 10 1 (r.vals.map .v) 36 rfl rfl (by omega) (AllP.mem ⟨.inl rfl,.inl rfl,.inl rfl,.inl rfl,.inr ⟨rfl,rfl⟩,.inl rfl,.inl rfl,.inl rfl,trivial⟩) (AllP.mem ⟨⟨rfl,(show 19≠9 by decide)⟩,⟨rfl,(show 11≠9 by decide)⟩,⟨rfl,(show 12≠9 by decide)⟩,⟨rfl,(show 5≠9 by decide)⟩,⟨rfl,(show 0≠9 by decide)⟩,⟨rfl,(show 1≠9 by decide)⟩,⟨rfl,(show 2≠9 by decide)⟩,⟨rfl,(show 3≠9 by decide)⟩,⟨rfl,(show 4≠9 by decide)⟩,trivial⟩) ?_
   refine Run.trim (T':=[(12,.ptr 19 0),(4,.opq 4),(5,.ptr 5 0),(16,.agg [.opq 0,ii inp,.opq 1]),(18,.opq 23),(20,.opq 11),(21,.opq 12),(22,.opq 2)]) (M':=[(23,.row 10 1 (r.vals.map .v) 36),(19,.cells [.v (.slice none 0 0),ii 0,.v (.slice none 0 0)] 25),(11,.row 1 (more.length+3) ([ii (-1),ii (-1),ii 0]++(ints more).map .v) 3),(12,.row 2 2 [ii 0,ii 0,ii 2,ii 1] 62),(5,.cells [.opq 0,ii inp,.opq 1] 25),(0,.rwin 8 N.length (N.flatMap Prm.vals)),(1,.rwin 4 S.length (S.flatMap Syn.vals)),(2,.rwin 3 pz.length (pz.flatMap Prz.vals)),(3,.rwin 1 more.length (ints more)),(4,.rwin 1 ws.length (ints ws))]) 24 ⟨⟨rfl,(show 19<24 by decide)⟩,⟨rfl,(show 4<24 by decide)⟩,⟨rfl,(show 5<24 by decide)⟩,⟨rfl,⟨(show 0<24 by decide),trivial,(show 1<24 by decide),trivial⟩⟩,⟨rfl,(show 23<24 by decide)⟩,⟨rfl,(show 11<24 by decide)⟩,⟨rfl,(show 12<24 by decide)⟩,⟨rfl,(show 2<24 by decide)⟩,trivial⟩ ⟨⟨rfl,by omega,scs_v _ _⟩,⟨rfl,by omega,by simp [SObj.sc,SV.scs,SV.sc]⟩,⟨rfl,by omega,scs_append (by simp [SV.scs,SV.sc]) (scs_v _ _)⟩,⟨rfl,by omega,by simp [SObj.sc,SV.scs,SV.sc]⟩,⟨rfl,by omega,by simp [SObj.sc,SV.scs,SV.sc]⟩,⟨rfl,by omega,trivial⟩,⟨rfl,by omega,trivial⟩,⟨rfl,by omega,trivial⟩,⟨rfl,by omega,trivial⟩,⟨rfl,by omega,trivial⟩,trivial⟩ (fun p hp=>by cases hp) ?_
   refine Run.callR (vs:=[.agg [.opq 0,ii inp,.opq 1],.opq 2,.opq 3,.opq 4,.opq 5,ii 10]) (caps:=[]) (caps2:=[]) (train_ok (trdX ⟨N,inp,S⟩ r more) exEv pz 10 h hp hpz hK) (ent _ _ Try.func20 (by kernel_rfl) rfl) rfl rfl rfl rfl rfl rfl [.agg [.opq 0,ii inp,.opq 1],.opq 23,.opq 11,.opq 12,.opq 2,ii 10] rfl (rq [(2,23),(3,11),(4,12),(5,2)]) rfl (fun i hi=>by have inv : ∀ i,i<6→rq [(2,23),(3,11),(4,12),(5,2)] i<24:=(by decide); exact inv i hi) (fun i hi j hj hne=>by have inj : ∀ i,i<6 → ∀ j,j<6→i≠j→rq [(2,23),(3,11),(4,12),(5,2)] i≠rq [(2,23),(3,11),(4,12),(5,2)] j:=(by decide); exact inj i hi j hj hne) (by decide)
    ⟨⟨by omega,trivial,⟨_,rfl,Conv.refl _⟩,.inl rfl,fun _=>by simp⟩,⟨by omega,trivial,⟨_,rfl,Conv.refl _⟩,.inl rfl,fun _=>by simp⟩,⟨by omega,trivial,⟨_,rfl,Conv.row (by decide) rfl⟩,.inl rfl,fun _=>by simp⟩,⟨by omega,trivial,⟨_,rfl,Conv.row (by decide) rfl⟩,.inl rfl,fun _=>by simp⟩,⟨by omega,trivial,⟨_,rfl,Conv.row (by decide) rfl⟩,.inl rfl,fun _=>by simp⟩,⟨by omega,trivial,⟨_,rfl,Conv.refl _⟩,.inl rfl,fun _=>by simp⟩,trivial⟩ (fun i hi=>by cases hi) (.tup [.opq 24,.agg [.opq 25,ii inp,.opq 26],ii 0]) [(24,.row 2 (trO (trdX ⟨N,inp,S⟩ r more) exEv pz 10).length ((trO (trdX ⟨N,inp,S⟩ r more) exEv pz 10).flatMap Evt.cells) 62),(25,.row 8 N.length ((N.flatMap Prm.vals).map .v) 60),(26,.row 4 S.length ((nowL S (trS (trdX ⟨N,inp,S⟩ r more) exEv pz 10).m).flatMap Syn.cells) 55),(19,.cells [.v (.slice none 0 0),ii 0,.v (.slice none 0 0)] 25),(5,.cells [.opq 0,ii inp,.opq 1] 25),(1,.rwin 4 S.length (S.flatMap Syn.vals)),(4,.rwin 1 ws.length (ints ws))] 27 rfl rfl
    ⟨.inr ⟨6,_,rfl,rfl,(oren_fix (S:=fun _=>False) (fun i hi=>hi.elim) (o := .row 2 (trO (trdX ⟨N,inp,S⟩ r more) exEv pz 10).length ((trO (trdX ⟨N,inp,S⟩ r more) exEv pz 10).flatMap Evt.cells) 62) (scs_evts _ _)).symm,rfl⟩,.inr ⟨7,_,rfl,rfl,(oren_fix (S:=fun _=>False) (fun i hi=>hi.elim) (o := .row 8 N.length ((N.flatMap Prm.vals).map .v) 60) (scs_v _ _)).symm,rfl⟩,.inr ⟨8,_,rfl,rfl,(oren_fix (S:=fun _=>False) (fun i hi=>hi.elim) (o := .row 4 S.length ((nowL S (trS (trdX ⟨N,inp,S⟩ r more) exEv pz 10).m).flatMap Syn.cells) 55) (scs_syns _ _)).symm,rfl⟩,.inl ⟨rfl,fun i hi=>by cases hi⟩,.inl ⟨rfl,fun i hi=>by cases hi⟩,.inl ⟨rfl,fun i hi=>by cases hi⟩,.inl ⟨rfl,fun i hi=>by cases hi⟩,trivial⟩ ?_
   refine Run.drawQ (hc [] none (fun _ h=>by cases h)) [8,9,10,11,13,14,15] [] [] hl2 ?_
   conv=>whnf
   refine ⟨by kernel_rfl,fun l3 hl3 => ?_,.inl rfl⟩
   obtain rfl:=hl3.nil
   exact Run.trim (T':=[(4,.opq 4),(5,.ptr 5 0),(12,.ptr 19 0),(13,ii 0)]) (M':=[(19,.cells [.opq 25,ii inp,.opq 26] 25),(5,.cells [.opq 0,ii inp,.opq 1] 25),(1,.rwin 4 S.length (S.flatMap Syn.vals)),(4,.rwin 1 ws.length (ints ws)),(26,.row 4 S.length ((nowL S (trS (trdX ⟨N,inp,S⟩ r more) exEv pz 10).m).flatMap Syn.cells) 55)]) 43 ⟨⟨rfl,(show 4<43 by decide)⟩,⟨rfl,(show 5<43 by decide)⟩,⟨rfl,(show 19<43 by decide)⟩,⟨rfl,trivial⟩,trivial⟩ ⟨⟨rfl,by omega,by simp [SObj.sc,SV.scs,SV.sc]⟩,⟨rfl,by omega,by simp [SObj.sc,SV.scs,SV.sc]⟩,⟨rfl,by omega,trivial⟩,⟨rfl,by omega,trivial⟩,⟨rfl,by omega,scs_syns _ _⟩,trivial⟩ (fun p hp=>by cases hp) tail

 ·have hZl:(nowL S (trS (trdX ⟨N,inp,S⟩ r more) exEv pz 10).m).length=S.length:=nowY_len ..
  obtain ⟨Z,hZ⟩ : ∃ Z,nowL S (trS (trdX ⟨N,inp,S⟩ r more) exEv pz 10).m=Z:=⟨_,rfl⟩
  rw [hZ]
  rw [hZ] at hZl
  have hres:trdB ⟨N,inp,S⟩ r pz more ws=decide (∀ i,i<ws.length→(Z.getD (2+i) syn0).w=ws.getD i 0):=by
   unfold trdB
   simp only [hZ]
  refine Run.of_wpK (hc [] none (fun _ h=>by cases h)) 1000 _ ?_
  conv=>whnf
  rw [show ((S.length:Int) != (S.length:Int))=false by simp]
  conv=>whnf
  rw [show ((S.length:Int) != IntKind.i64.wrap (2+(ws.length:Int)))=false by rw [show IntKind.i64.wrap (2+(ws.length:Int))=2+(ws.length:Int) from W_id (by omega) (by omega)]; simp; omega]
  conv=>whnf
  refine Run.trim (T':=[(4,.opq 4),(12,.ptr 19 0),(14,ii ((0:Nat):Int))]) (M':=[(19,.cells [.opq 25,ii inp,.opq 26] 25),(4,.rwin 1 ws.length (ints ws)),(26,.row 4 S.length (Z.flatMap Syn.cells) 55)]) 43 ⟨⟨rfl,(show 4<43 by decide)⟩,⟨rfl,(show 19<43 by decide)⟩,⟨rfl,trivial⟩,trivial⟩ ⟨⟨rfl,by omega,by simp [SObj.sc,SV.scs,SV.sc]⟩,⟨rfl,by omega,trivial⟩,⟨rfl,by omega,scs_syns _ _⟩,trivial⟩ (fun p hp=>by cases hp) ?_
  refine Run.upToJ (T:=fun i=>[(4,.opq 4),(12,.ptr 19 0),(14,ii ((i:Nat):Int))]) (M:=fun _=>[(19,.cells [.opq 25,ii inp,.opq 26] 25),(4,.rwin 1 ws.length (ints ws)),(26,.row 4 S.length (Z.flatMap Syn.cells) 55)]) (fun i => ∀ j (h:j<ws.length),j<i→(Z.getD (2+j) syn0).w=ws[j]) ws.length (fun j h hj=>absurd hj (by omega)) ?_ ?_
  ·intro i hi hJ ih
   have hi3:2+i<Z.length:=by omega
   have hgz:Z.getD (2+i) syn0=Z[2+i]:=by simp [List.getD_eq_getElem?_getD,hi3]
   refine Run.of_wpK (hc [] none (fun _ h=>by cases h)) 1000 _ ?_
   conv=>whnf
   rw [decide_eq_true (show ((i:Nat):Int)<(ws.length:Int) by omega)]
   conv=>whnf
   refine Run.draw (hc [] none (fun _ h=>by cases h)) 12 ?_
   rw [show upto 0 12=upto 0 5++(upto 5 2++(upto 7 3++(upto 10 1++upto 11 1))) from rfl]
   simp only [drawK_app]
   conv=>whnf
   rw [show IntKind.i64.wrap (2+((i:Nat):Int))=((2+i:Nat):Int) by rw [show (2:Int)+(i:Int)=((2+i:Nat):Int) by omega]; exact W_id (by omega) (by omega)]
   conv=>whnf
   refine ⟨by omega,?_⟩
   conv=>whnf
   rw [opF_loadRf (f:=Syn.cells) (l:=Z) (c:=ii Z[2+i].w) (2+i) 2 rfl rfl rfl rfl Syn.clen (by rw [idx_nat]) hi3 (by decide) rfl]
   conv=>whnf
   refine ⟨by omega,?_⟩
   conv=>whnf
   rw [opF_load1 i rfl rfl rfl rfl (by rw [idx_nat,Nat.mul_one]) (ints_get hi)]
   conv=>whnf
   refine ⟨by kernel_rfl,?_⟩
   refine Run.of_wpK (hc [] none (fun _ h=>by cases h)) 1000 _ ?_
   conv=>whnf
   cases e2:(Z[2+i].w != ws[i])
   case true =>
    conv=>whnf
    have e3 : ¬ ∀ i,i<ws.length→(Z.getD (2+i) syn0).w=ws.getD i 0:=fun hall=>by
     have:=hall i hi
     rw [hgz,List.getD_eq_getElem?_getD,List.getElem?_eq_getElem hi] at this
     simp only [Option.getD_some] at this
     simp [this] at e2
    exact ⟨fun ρ w' hW _=>⟨by rw [hres,decide_eq_false e3]; rfl,hW.toExt⟩⟩
   have e3:Z[2+i].w=ws[i]:=by simpa using e2
   conv=>whnf
   exact Run.trim (T':=[(4,.opq 4),(12,.ptr 19 0),(14,ii ((i+1:Nat):Int))]) (M':=[(19,.cells [.opq 25,ii inp,.opq 26] 25),(4,.rwin 1 ws.length (ints ws)),(26,.row 4 S.length (Z.flatMap Syn.cells) 55)]) 43 ⟨⟨rfl,(show 4<43 by decide)⟩,⟨rfl,(show 19<43 by decide)⟩,⟨congrArg some (congrArg ii (wrap_succ (by omega))),trivial⟩,trivial⟩ ⟨⟨rfl,by omega,by simp [SObj.sc,SV.scs,SV.sc]⟩,⟨rfl,by omega,trivial⟩,⟨rfl,by omega,scs_syns _ _⟩,trivial⟩ (fun p hp=>by cases hp) (ih fun j h hj=>by
    by_cases e:j=i
    ·subst e; rw [hgz]; exact e3
    ·exact hJ j h (by omega))

  ·intro hJ
   refine Run.of_wpK (hc [] none (fun _ h=>by cases h)) 1000 _ ?_
   conv=>whnf
   rw [decide_eq_false (show ¬ ((ws.length:Nat):Int)<(ws.length:Int) by omega)]
   conv=>whnf
   have e3 : ∀ i,i<ws.length→(Z.getD (2+i) syn0).w=ws.getD i 0:=fun i h=>by
    rw [hJ i h h,List.getD_eq_getElem?_getD,List.getElem?_eq_getElem h]; rfl
   exact ⟨fun ρ w' hW _=>⟨by rw [hres,decide_eq_true e3]; rfl,hW.toExt⟩⟩
end Go.Proofs.Ytnnlpdgnlccbjaa
namespace Go.Sx
/-- The environment told anew at a number that nothing told stands for. -/
theorem WI.reenv {w0:World} {L:List (Nat × Nat)} {ρ ρ':Env} {M:Mem} {S:Nat→Prop} {w:World} {q:Nat} (h:WI w0 L ρ M S w) (ha:Env.agree (· ≠ q) ρ ρ') (hs:ρ'.s q=ρ.s q) (hM : ∀ i o,M i=some o→i≠q∧o.sc (· ≠ q)):WI w0 L ρ' M S w:=by
 have hss : ∀ j,ρ'.s j=ρ.s j:=fun j=>by
  by_cases e:j=q
  ·rw [e]; exact hs
  ·exact (ha j e).1
 refine ⟨fun i o hi => ?_,fun i j oi oj hi hj hne ho ho' => ?_,fun i o hi ho => ?_,fun p hp => ?_,h.keep,h.size,h.os,h.tape,h.output⟩
 ·obtain ⟨g1,g2,g3⟩:=h.mem i o hi
  obtain ⟨m1,m2⟩:=hM i o hi
  exact ⟨g1,g2,SObj.holds_agree ha m1 m2 (fun _=>rfl) g3⟩
 ·rw [hss,hss]
  exact h.dist i j oi oj hi hj hne ((SObj.occ_agree ha (hM i oi hi).1).1 ho) ((SObj.occ_agree ha (hM j oj hj).1).1 ho')
 ·rw [hss]
  exact h.new i o hi ((SObj.occ_agree ha (hM i o hi).1).1 ho)
 ·obtain ⟨h1,h2⟩:=h.lid p hp
  exact ⟨h1,by rw [hss,h2]⟩
def Env.nilAt (ρ:Env) (q:Nat) (v:Option Addr × Nat × Nat):Env:=⟨ρ.s,ρ.o,fun j=>if j=q then v else ρ.h j⟩
theorem Env.nilAt_agree (ρ:Env) (q:Nat) (v:Option Addr × Nat × Nat):Env.agree (· ≠ q) ρ (ρ.nilAt q v):=fun j (hj:j≠q)=>⟨rfl,rfl,by simp [Env.nilAt,hj]⟩
theorem BSpec.nilArg {P:Program} {g:FuncId} {args args2:List SV} {Mc Mc2:List (Nat × SObj)} {B:Nat} {is:List Nat} {v:SV} {M1:List (Nat × SObj)} {n1:Nat} (q e:Nat) (h:BSpec P g args Mc B is v M1 n1) (hq:q<B)
  (hargs : ∀ ρ:Env,ρ.h q=(none,0,0)→SV.concs ρ args=SV.concs ρ args2) (ha2:SV.scs (· ≠ q) args2) (hMc2:AllP (fun x=>x.1≠q∧x.2.sc (· ≠ q)) Mc2)
  (hMc:AllP (fun x=>look ((q,.rwin e 0 [])::Mc2) x.1=some x.2) Mc) (hv:v.sc (· ≠ q)) (hM1:AllP (fun x=>x.1≠q∧x.2.sc (· ≠ q)) M1):BSpec P g args2 Mc2 B is v M1 n1:=by
 intro ρ w L' hW hL
 have hW5:WI w L' (ρ.nilAt q (none,0,0)) (look Mc2) (· < B) w:=hW.reenv (ρ.nilAt_agree q _) rfl fun i o hi=>hMc2.mem _ (look_mem hi)
 have hh:(ρ.nilAt q (none,0,0)).h q=(none,0,0):=by simp [Env.nilAt]
 have hWq:WI w L' (ρ.nilAt q (none,0,0)) (look ((q,.rwin e 0 [])::Mc2)) (· < B) w:=by
  have hcase : ∀ i o,look ((q,.rwin e 0 [])::Mc2) i=some o→(i=q∧o = .rwin e 0 [])∨look Mc2 i=some o:=by
   intro i o hi
   rw [look_cons] at hi
   split at hi
   ·rename_i e'; exact .inl ⟨e'.symm,(Option.some.inj hi).symm⟩
   ·exact .inr hi
  refine ⟨fun i o hi => ?_,fun i j oi oj hi hj hne ho ho' => ?_,fun i o hi ho => ?_,hW5.lid,hW5.keep,hW5.size,hW5.os,hW5.tape,hW5.output⟩
  ·rcases hcase i o hi with ⟨rfl,rfl⟩ | hi
   ·exact ⟨hq,trivial,by simp,by rw [hh],by rw [hh]; exact Nat.le_refl _,.inl rfl⟩
   ·exact hW5.mem i o hi
  ·rcases hcase i oi hi with ⟨rfl,rfl⟩ | hi
   ·exact ho.elim
   ·rcases hcase j oj hj with ⟨rfl,rfl⟩ | hj
    ·exact ho'.elim
    ·exact hW5.dist i j oi oj hi hj hne ho ho'
  ·rcases hcase i o hi with ⟨rfl,rfl⟩ | hi
   ·exact ho.elim
   ·exact hW5.new i o hi ho
 have hcall:=h (ρ.nilAt q (none,0,0)) w L' (hWq.sub fun i o hi=>hMc.mem _ (look_mem hi)) hL
 rw [hargs _ hh,concs_agree (ρ.nilAt_agree q (none,0,0)) _ ha2] at hcall
 refine hcall.mono fun en w' ⟨ρ',he,hvs,hag,hW'⟩=>⟨ρ'.nilAt q (ρ.h q),?_,hvs,fun j hj => ?_,hW'.reenv (ρ'.nilAt_agree q _) rfl fun i o hi=>hM1.mem _ (look_mem hi)⟩
 ·rw [he,conc_agree (ρ'.nilAt_agree q (ρ.h q)) _ hv]
 ·obtain ⟨a1,a2,a3⟩:=hag j hj
  refine ⟨a1,a2,?_⟩
  by_cases e:j=q
  ·subst e; simp [Env.nilAt]
  ·simp only [Env.nilAt,if_neg e] at a3 ⊢
   exact a3
end Go.Sx
namespace Go.Proofs.Ytnnlpdgnlccbjaa
open Go.Sx
set_option maxRecDepth 100000
set_option maxHeartbeats 8000000
theorem ex_chk:learnChk exNet [exRul] [-1,-1,0]=0:=by kernel_rfl
theorem ex_prep:prepChk ⟨[prm1],2,[]⟩ exEv 10 10000=0:=by kernel_rfl
theorem ex_win:winR exRul 1=(2,0):=by kernel_rfl
theorem ex_out:trO (trdX exNet exRul []) exEv [] 10=[⟨1,0⟩,⟨3,1⟩]:=by kernel_rfl
theorem ex_trd:trdB exNet exRul [] [] [4]=true:=by kernel_rfl
/-- What Train looks at, without prizes. -/
def trainM0 (x:Lnt) (l:List Evt):List (Nat × SObj):=newM x++[(4,.rwin 2 l.length (l.flatMap Evt.vals))]
theorem train_nil (x:Lnt) (l:List Evt) (K:Nat) (h:learnChk x.n x.rs x.pl=0) (hp:prepChk ⟨[prm1],x.n.inp,[]⟩ l (K:Int) 10000=0) (hK:K*x.n.N.length≤65536) :
  BSpec Try.prog 20 [.agg [.opq 0,ii x.n.inp,.opq 1],.opq 2,.opq 3,.opq 4,.v (.slice none 0 0),ii (K:Int)] (trainM0 x l) 6 [] (.tup [.opq 6,.agg [.opq 7,ii x.n.inp,.opq 8],ii 0])
   [(6,.row 2 (trO x l [] K).length ((trO x l [] K).flatMap Evt.cells) 62),(7,.row 8 x.n.N.length ((x.n.N.flatMap Prm.vals).map .v) 60),(8,.row 4 x.n.S.length ((nowL x.n.S (trS x l [] K).m).flatMap Syn.cells) 55)] 9:=by
 refine BSpec.nilArg 5 3 (train_ok x l [] K h hp (by unfold pzsChk; rfl) hK) (by decide) (fun ρ hρ => ?_) (by simp [SV.scs,SV.sc]) ⟨⟨(show 0≠5 by decide),trivial⟩,⟨(show 1≠5 by decide),trivial⟩,⟨(show 2≠5 by decide),trivial⟩,⟨(show 3≠5 by decide),trivial⟩,⟨(show 4≠5 by decide),trivial⟩,trivial⟩ ⟨rfl,rfl,rfl,rfl,rfl,rfl,trivial⟩ (by simp [SV.sc,SV.scs])
  ⟨⟨(show 6≠5 by decide),scs_evts _ _⟩,⟨(show 7≠5 by decide),scs_v _ _⟩,⟨(show 8≠5 by decide),scs_syns _ _⟩,trivial⟩
 simp only [SV.concs,SV.conc,hρ]
theorem works_run (w:World):Calls Try.prog 14 #[] w fun e w'=>e = .returned (.bool true)∧Ext w w':=by
 have hpf:PF.oks Try.prog pfTrd:=pfTrd_ok
 have hc : ∀ L' rd,(∀ p,rd=some p→p∈L')→Cx.ok ⟨Try.prog,tab,pfTrd,14,Try.f14,[],w,L',rd⟩:=fun L' rd h=>⟨tab_ok,pfTrd_ok,Try.func14,mixed,h⟩
 refine Run.start0 (tab:=tab) (pf:=pfTrd) (cuts:=[]) mixed tab_ok pfTrd_ok Try.func14 rfl [] 100 trivial rfl ?_
 conv=>whnf
 refine Run.callP (vs:=[]) (caps:=[]) example_spec (ent _ _ Try.func33 (by kernel_rfl) rfl) rfl rfl rfl rfl rfl rfl rfl (by decide) (by decide)
  trivial (fun i hi=>by cases hi) (.tup [.agg [.opq 0,ii 2,.opq 1],.agg (exRul.vals.map .v)]) [(0,.row 8 2 (([exPrm,exPrm].flatMap Prm.vals).map .v) 60),(1,.row 4 3 ((exS.flatMap Syn.vals).map .v) 55)] 2 rfl rfl
  ⟨.inr ⟨0,_,rfl,rfl,rfl,rfl⟩,.inr ⟨1,_,rfl,rfl,rfl,rfl⟩,trivial⟩ ?_
 refine Run.of_wpK (hc [] none (fun _ h=>by cases h)) 1000 _ ?_
 conv=>whnf
 refine Run.callE (g:=18) (vs:=[.agg (exRul.vals.map .v),ii 1]) (caps:=[]) (.tup [ii 2,ii 0]) (fun ρ w1 hW=>by
  have:=Window_run exRul 1 w1
  rw [ex_win] at this
  exact this) (ent _ _ Try.func18 (by kernel_rfl) rfl) rfl rfl rfl rfl rfl rfl rfl ⟨trivial,trivial,trivial⟩ ?_
 refine Run.of_wpK (hc [] none (fun _ h=>by cases h)) 1000 _ ?_
 conv=>whnf
 apply joinL [(1,.ptr 2 0),(2,.ptr 3 0),(3,ii 2),(4,ii 0),(5,.opq 19),(7,ii 0)] [(19,.row 2 2 (([⟨1,0⟩,⟨3,1⟩]:List Evt).flatMap Evt.cells) 62),(2,.cells [.opq 0,ii 2,.opq 1] 25),(3,.cells (exRul.vals.map .v) 36),(0,.row 8 2 (([exPrm,exPrm].flatMap Prm.vals).map .v) 60),(1,.row 4 3 ((exS.flatMap Syn.vals).map .v) 55)] 36
 ·intro tail
  refine Run.draw0 (hc [] none (fun _ h=>by cases h)) fun l0 hl0 => ?_
  have hlin:=Lin.ofGo [0,1,2,3,4,5,6,7,8,9,10,11,12,13] hl0 rfl (by decide)
  apply joinA [(6,.ptr 14 0),(1,.ptr 2 0),(2,.ptr 3 0),(3,ii 2),(4,ii 0),(18,.agg [.opq 0,ii 2,.opq 1]),(20,.slc 6 0 1 1),(21,.opq 7),(22,.opq 8)] [(14,.cells [.v (.slice none 0 0),ii 0,.v (.slice none 0 0)] 25),(6,.cells (exRul.vals.map .v) 36),(7,.row 1 3 [ii (-1),ii (-1),ii 0] 3),(8,.row 2 2 [ii 0,ii 0,ii 2,ii 1] 62),(2,.cells [.opq 0,ii 2,.opq 1] 25),(3,.cells (exRul.vals.map .v) 36),(0,.row 8 2 (([exPrm,exPrm].flatMap Prm.vals).map .v) 60),(1,.row 4 3 ((exS.flatMap Syn.vals).map .v) 55)] 18 [5,6,7,8,9,11,12,13]
  ·intro g1
   refine Run.drawQ (hc [] none (fun _ h=>by cases h)) [0,1,2,3,4] [10] [5,6,7,8,9,11,12,13] hlin ?_
   conv=>whnf
   refine ⟨by kernel_rfl,fun l1 hl1 => ?_,.inr ⟨[(1,.ptr 2 0),(2,.ptr 3 0),(3,ii 2),(4,ii 0),(18,.agg [.opq 0,ii 2,.opq 1]),(20,.slc 6 0 1 1),(21,.opq 7),(22,.opq 8)],[(6,.cells (exRul.vals.map .v) 36),(7,.row 1 3 [ii (-1),ii (-1),ii 0] 3),(8,.row 2 2 [ii 0,ii 0,ii 2,ii 1] 62),(2,.cells [.opq 0,ii 2,.opq 1] 25),(3,.cells (exRul.vals.map .v) 36),(0,.row 8 2 (([exPrm,exPrm].flatMap Prm.vals).map .v) 60),(1,.row 4 3 ((exS.flatMap Syn.vals).map .v) 55)],by kernel_rfl,⟨rfl,rfl,rfl,rfl,rfl,rfl,rfl,rfl,trivial⟩,⟨rfl,rfl,rfl,rfl,rfl,rfl,rfl,trivial⟩,fun l1 hl1 => ?_⟩⟩
   ·exact Run.trim (T':=[(6,.ptr 14 0),(1,.ptr 2 0),(2,.ptr 3 0),(3,ii 2),(4,ii 0),(18,.agg [.opq 0,ii 2,.opq 1]),(20,.slc 6 0 1 1),(21,.opq 7),(22,.opq 8)]) (M':=[(14,.cells [.v (.slice none 0 0),ii 0,.v (.slice none 0 0)] 25),(6,.cells (exRul.vals.map .v) 36),(7,.row 1 3 [ii (-1),ii (-1),ii 0] 3),(8,.row 2 2 [ii 0,ii 0,ii 2,ii 1] 62),(2,.cells [.opq 0,ii 2,.opq 1] 25),(3,.cells (exRul.vals.map .v) 36),(0,.row 8 2 (([exPrm,exPrm].flatMap Prm.vals).map .v) 60),(1,.row 4 3 ((exS.flatMap Syn.vals).map .v) 55)]) 18 ⟨⟨rfl,(show 14<18 by decide)⟩,⟨rfl,(show 2<18 by decide)⟩,⟨rfl,(show 3<18 by decide)⟩,⟨rfl,trivial⟩,⟨rfl,trivial⟩,⟨rfl,⟨(show 0<18 by decide),trivial,(show 1<18 by decide),trivial⟩⟩,⟨rfl,(show 6<18 by decide)⟩,⟨rfl,(show 7<18 by decide)⟩,⟨rfl,(show 8<18 by decide)⟩,trivial⟩ ⟨⟨rfl,by omega,by simp [SObj.sc,SV.scs,SV.sc]⟩,⟨rfl,by omega,scs_v _ _⟩,⟨rfl,by omega,by simp [SObj.sc,SV.scs,SV.sc]⟩,⟨rfl,by omega,by simp [SObj.sc,SV.scs,SV.sc]⟩,⟨rfl,by omega,by simp [SObj.sc,SV.scs,SV.sc]⟩,⟨rfl,by omega,scs_v _ _⟩,⟨rfl,by omega,scs_v _ _⟩,⟨rfl,by omega,scs_v _ _⟩,trivial⟩ (fun p hp=>by cases hp) (g1 l1 hl1)
   ·obtain ⟨i,l2,rfl,hi,_,hl2⟩:=hl1.next [5,10] rfl rfl rfl
    have hi2:i=5∨i=10:=by simpa using hi
    rcases hi2 with rfl | rfl
    ·refine Run.slcRowE (T':=[(1,.ptr 2 0),(2,.ptr 3 0),(3,ii 2),(4,ii 0),(18,.agg [.opq 0,ii 2,.opq 1]),(20,.opq 18),(21,.opq 7),(22,.opq 8)]) (M':=[(7,.row 1 3 [ii (-1),ii (-1),ii 0] 3),(8,.row 2 2 [ii 0,ii 0,ii 2,ii 1] 62),(2,.cells [.opq 0,ii 2,.opq 1] 25),(3,.cells (exRul.vals.map .v) 36),(0,.row 8 2 (([exPrm,exPrm].flatMap Prm.vals).map .v) 60),(1,.row 4 3 ((exS.flatMap Syn.vals).map .v) 55)]) 6 10 1 (exRul.vals.map .v) 36 rfl rfl (by omega) (AllP.mem ⟨.inl rfl,.inl rfl,.inl rfl,.inl rfl,.inl rfl,.inr ⟨rfl,rfl⟩,.inl rfl,.inl rfl,trivial⟩) (AllP.mem ⟨⟨rfl,(show 7≠6 by decide)⟩,⟨rfl,(show 8≠6 by decide)⟩,⟨rfl,(show 2≠6 by decide)⟩,⟨rfl,(show 3≠6 by decide)⟩,⟨rfl,(show 0≠6 by decide)⟩,⟨rfl,(show 1≠6 by decide)⟩,trivial⟩) ?_
     refine Run.trim (T':=[(1,.ptr 2 0),(2,.ptr 3 0),(3,ii 2),(4,ii 0),(18,.agg [.opq 0,ii 2,.opq 1]),(20,.opq 18),(21,.opq 7),(22,.opq 8)]) (M':=[(18,.row 10 1 (exRul.vals.map .v) 36),(7,.row 1 3 [ii (-1),ii (-1),ii 0] 3),(8,.row 2 2 [ii 0,ii 0,ii 2,ii 1] 62),(2,.cells [.opq 0,ii 2,.opq 1] 25),(3,.cells (exRul.vals.map .v) 36),(0,.row 8 2 (([exPrm,exPrm].flatMap Prm.vals).map .v) 60),(1,.row 4 3 ((exS.flatMap Syn.vals).map .v) 55)]) 19 ⟨⟨rfl,(show 2<19 by decide)⟩,⟨rfl,(show 3<19 by decide)⟩,⟨rfl,trivial⟩,⟨rfl,trivial⟩,⟨rfl,⟨(show 0<19 by decide),trivial,(show 1<19 by decide),trivial⟩⟩,⟨rfl,(show 18<19 by decide)⟩,⟨rfl,(show 7<19 by decide)⟩,⟨rfl,(show 8<19 by decide)⟩,trivial⟩ ⟨⟨rfl,by omega,scs_v _ _⟩,⟨rfl,by omega,by simp [SObj.sc,SV.scs,SV.sc]⟩,⟨rfl,by omega,by simp [SObj.sc,SV.scs,SV.sc]⟩,⟨rfl,by omega,by simp [SObj.sc,SV.scs,SV.sc]⟩,⟨rfl,by omega,scs_v _ _⟩,⟨rfl,by omega,scs_v _ _⟩,⟨rfl,by omega,scs_v _ _⟩,trivial⟩ (fun p hp=>by cases hp) ?_
     have htr:=train_nil (trdX exNet exRul []) exEv 10 ex_chk ex_prep (by decide)
     rw [ex_out] at htr
     refine Run.callR (vs:=[.agg [.opq 0,ii 2,.opq 1],.opq 2,.opq 3,.opq 4,.v (.slice none 0 0),ii 10]) (caps:=[]) (caps2:=[]) htr (ent _ _ Try.func20 (by kernel_rfl) rfl) rfl rfl rfl rfl rfl rfl [.agg [.opq 0,ii 2,.opq 1],.opq 18,.opq 7,.opq 8,.v (.slice none 0 0),ii 10] rfl (rq [(2,18),(3,7),(4,8)]) rfl (fun i hi=>by have inv : ∀ i,i<6→rq [(2,18),(3,7),(4,8)] i<19:=(by decide); exact inv i hi) (fun i hi j hj hne=>by have inj : ∀ i,i<6 → ∀ j,j<6→i≠j→rq [(2,18),(3,7),(4,8)] i≠rq [(2,18),(3,7),(4,8)] j:=(by decide); exact inj i hi j hj hne) (by decide)
      ⟨⟨by omega,trivial,⟨_,rfl,Conv.row (by decide) rfl⟩,.inl rfl,fun _=>by simp⟩,⟨by omega,trivial,⟨_,rfl,Conv.row (by decide) rfl⟩,.inl rfl,fun _=>by simp⟩,⟨by omega,trivial,⟨_,rfl,Conv.row (by decide) rfl⟩,.inl rfl,fun _=>by simp⟩,⟨by omega,trivial,⟨_,rfl,Conv.row (by decide) rfl⟩,.inl rfl,fun _=>by simp⟩,⟨by omega,trivial,⟨_,rfl,Conv.row (by decide) rfl⟩,.inl rfl,fun _=>by simp⟩,trivial⟩ (fun i hi=>by cases hi) (.tup [.opq 19,.agg [.opq 20,ii 2,.opq 21],ii 0]) [(19,.row 2 2 (([⟨1,0⟩,⟨3,1⟩]:List Evt).flatMap Evt.cells) 62),(2,.cells [.opq 0,ii 2,.opq 1] 25),(3,.cells (exRul.vals.map .v) 36),(0,.row 8 2 (([exPrm,exPrm].flatMap Prm.vals).map .v) 60),(1,.row 4 3 ((exS.flatMap Syn.vals).map .v) 55)] 22 rfl rfl
      ⟨.inr ⟨6,_,rfl,rfl,(oren_fix (S:=fun _=>False) (fun i hi=>hi.elim) (o := .row 2 2 (([⟨1,0⟩,⟨3,1⟩]:List Evt).flatMap Evt.cells) 62) (scs_evts _ _)).symm,rfl⟩,.inl ⟨rfl,fun i hi=>by cases hi⟩,.inl ⟨rfl,fun i hi=>by cases hi⟩,.inl ⟨rfl,fun i hi=>by cases hi⟩,.inl ⟨rfl,fun i hi=>by cases hi⟩,trivial⟩ ?_
     refine Run.drawQ (hc [] none (fun _ h=>by cases h)) [6,7,8,9,10,11,12,13] [] [] hl2 ?_
     conv=>whnf
     refine ⟨by kernel_rfl,fun l3 hl3 => ?_,.inl rfl⟩
     obtain rfl:=hl3.nil
     exact Run.trim (T':=[(1,.ptr 2 0),(2,.ptr 3 0),(3,ii 2),(4,ii 0),(5,.opq 19),(7,ii 0)]) (M':=[(19,.row 2 2 (([⟨1,0⟩,⟨3,1⟩]:List Evt).flatMap Evt.cells) 62),(2,.cells [.opq 0,ii 2,.opq 1] 25),(3,.cells (exRul.vals.map .v) 36),(0,.row 8 2 (([exPrm,exPrm].flatMap Prm.vals).map .v) 60),(1,.row 4 3 ((exS.flatMap Syn.vals).map .v) 55)]) 36 ⟨⟨rfl,(show 2<36 by decide)⟩,⟨rfl,(show 3<36 by decide)⟩,⟨rfl,trivial⟩,⟨rfl,trivial⟩,⟨rfl,(show 19<36 by decide)⟩,⟨rfl,trivial⟩,trivial⟩ ⟨⟨rfl,by omega,scs_evts _ _⟩,⟨rfl,by omega,by simp [SObj.sc,SV.scs,SV.sc]⟩,⟨rfl,by omega,scs_v _ _⟩,⟨rfl,by omega,scs_v _ _⟩,⟨rfl,by omega,scs_v _ _⟩,trivial⟩ (fun p hp=>by cases hp) tail
    ·refine Run.of_wpK (hc [] none (fun _ h=>by cases h)) 1 _ ?_
     conv=>whnf
     refine Run.trimQ (T':=[(6,.ptr 14 0),(1,.ptr 2 0),(2,.ptr 3 0),(3,ii 2),(4,ii 0),(18,.agg [.opq 0,ii 2,.opq 1]),(20,.slc 6 0 1 1),(21,.opq 7),(22,.opq 8)]) (M':=[(14,.cells [.v (.slice none 0 0),ii 0,.v (.slice none 0 0)] 25),(6,.cells (exRul.vals.map .v) 36),(7,.row 1 3 [ii (-1),ii (-1),ii 0] 3),(8,.row 2 2 [ii 0,ii 0,ii 2,ii 1] 62),(2,.cells [.opq 0,ii 2,.opq 1] 25),(3,.cells (exRul.vals.map .v) 36),(0,.row 8 2 (([exPrm,exPrm].flatMap Prm.vals).map .v) 60),(1,.row 4 3 ((exS.flatMap Syn.vals).map .v) 55)]) (rq [(14,18),(18,14)]) 18 ?_ ?_ ?_ ?_ (g1 l2 hl2)
     ·intro i hi j hj hne he
      have inv : ∀ i,i<18→rq [(14,18),(18,14)] (rq [(14,18),(18,14)] i)=i:=by decide
      exact hne (by rw [← inv i hi,he,inv j hj])
     ·exact ⟨⟨rfl,(show 14<18 by decide)⟩,⟨rfl,(show 2<18 by decide)⟩,⟨rfl,(show 3<18 by decide)⟩,⟨rfl,trivial⟩,⟨rfl,trivial⟩,⟨rfl,⟨(show 0<18 by decide),trivial,(show 1<18 by decide),trivial⟩⟩,⟨rfl,(show 6<18 by decide)⟩,⟨rfl,(show 7<18 by decide)⟩,⟨rfl,(show 8<18 by decide)⟩,trivial⟩
     ·exact ⟨⟨rfl,by omega,by simp [SObj.sc,SV.scs,SV.sc]⟩,⟨congrArg some (oren_fix (S:=fun _=>False) (fun i hi=>hi.elim) (o := .cells (exRul.vals.map .v) 36) (scs_v _ _)).symm,by omega,scs_v _ _⟩,⟨rfl,by omega,by simp [SObj.sc,SV.scs,SV.sc]⟩,⟨rfl,by omega,by simp [SObj.sc,SV.scs,SV.sc]⟩,⟨rfl,by omega,by simp [SObj.sc,SV.scs,SV.sc]⟩,⟨congrArg some (oren_fix (S:=fun _=>False) (fun i hi=>hi.elim) (o := .cells (exRul.vals.map .v) 36) (scs_v _ _)).symm,by omega,scs_v _ _⟩,⟨congrArg some (oren_fix (S:=fun _=>False) (fun i hi=>hi.elim) (o := .row 8 2 (([exPrm,exPrm].flatMap Prm.vals).map .v) 60) (scs_v _ _)).symm,by omega,scs_v _ _⟩,⟨congrArg some (oren_fix (S:=fun _=>False) (fun i hi=>hi.elim) (o := .row 4 3 ((exS.flatMap Syn.vals).map .v) 55) (scs_v _ _)).symm,by omega,scs_v _ _⟩,trivial⟩
     ·intro p hp; cases hp
  ·intro l1 hl1
   obtain ⟨i,l2,rfl,hi,_,hl2⟩:=hl1.next [5] rfl rfl rfl
   obtain rfl:i=5:=by simpa using hi
   refine Run.slcRowE (T':=[(6,.ptr 14 0),(1,.ptr 2 0),(2,.ptr 3 0),(3,ii 2),(4,ii 0),(18,.agg [.opq 0,ii 2,.opq 1]),(20,.opq 18),(21,.opq 7),(22,.opq 8)]) (M':=[(14,.cells [.v (.slice none 0 0),ii 0,.v (.slice none 0 0)] 25),(7,.row 1 3 [ii (-1),ii (-1),ii 0] 3),(8,.row 2 2 [ii 0,ii 0,ii 2,ii 1] 62),(2,.cells [.opq 0,ii 2,.opq 1] 25),(3,.cells (exRul.vals.map .v) 36),(0,.row 8 2 (([exPrm,exPrm].flatMap Prm.vals).map .v) 60),(1,.row 4 3 ((exS.flatMap Syn.vals).map .v) 55)]) 6 10 1 (exRul.vals.map .v) 36 rfl rfl (by omega) (AllP.mem ⟨.inl rfl,.inl rfl,.inl rfl,.inl rfl,.inl rfl,.inl rfl,.inr ⟨rfl,rfl⟩,.inl rfl,.inl rfl,trivial⟩) (AllP.mem ⟨⟨rfl,(show 14≠6 by decide)⟩,⟨rfl,(show 7≠6 by decide)⟩,⟨rfl,(show 8≠6 by decide)⟩,⟨rfl,(show 2≠6 by decide)⟩,⟨rfl,(show 3≠6 by decide)⟩,⟨rfl,(show 0≠6 by decide)⟩,⟨rfl,(show 1≠6 by decide)⟩,trivial⟩) ?_
   refine Run.trim (T':=[(6,.ptr 14 0),(1,.ptr 2 0),(2,.ptr 3 0),(3,ii 2),(4,ii 0),(18,.agg [.opq 0,ii 2,.opq 1]),(20,.opq 18),(21,.opq 7),(22,.opq 8)]) (M':=[(18,.row 10 1 (exRul.vals.map .v) 36),(14,.cells [.v (.slice none 0 0),ii 0,.v (.slice none 0 0)] 25),(7,.row 1 3 [ii (-1),ii (-1),ii 0] 3),(8,.row 2 2 [ii 0,ii 0,ii 2,ii 1] 62),(2,.cells [.opq 0,ii 2,.opq 1] 25),(3,.cells (exRul.vals.map .v) 36),(0,.row 8 2 (([exPrm,exPrm].flatMap Prm.vals).map .v) 60),(1,.row 4 3 ((exS.flatMap Syn.vals).map .v) 55)]) 19 ⟨⟨rfl,(show 14<19 by decide)⟩,⟨rfl,(show 2<19 by decide)⟩,⟨rfl,(show 3<19 by decide)⟩,⟨rfl,trivial⟩,⟨rfl,trivial⟩,⟨rfl,⟨(show 0<19 by decide),trivial,(show 1<19 by decide),trivial⟩⟩,⟨rfl,(show 18<19 by decide)⟩,⟨rfl,(show 7<19 by decide)⟩,⟨rfl,(show 8<19 by decide)⟩,trivial⟩ ⟨⟨rfl,by omega,scs_v _ _⟩,⟨rfl,by omega,by simp [SObj.sc,SV.scs,SV.sc]⟩,⟨rfl,by omega,by simp [SObj.sc,SV.scs,SV.sc]⟩,⟨rfl,by omega,by simp [SObj.sc,SV.scs,SV.sc]⟩,⟨rfl,by omega,by simp [SObj.sc,SV.scs,SV.sc]⟩,⟨rfl,by omega,scs_v _ _⟩,⟨rfl,by omega,scs_v _ _⟩,⟨rfl,by omega,scs_v _ _⟩,trivial⟩ (fun p hp=>by cases hp) ?_
   have htr:=train_nil (trdX exNet exRul []) exEv 10 ex_chk ex_prep (by decide)
   rw [ex_out] at htr
   refine Run.callR (vs:=[.agg [.opq 0,ii 2,.opq 1],.opq 2,.opq 3,.opq 4,.v (.slice none 0 0),ii 10]) (caps:=[]) (caps2:=[]) htr (ent _ _ Try.func20 (by kernel_rfl) rfl) rfl rfl rfl rfl rfl rfl [.agg [.opq 0,ii 2,.opq 1],.opq 18,.opq 7,.opq 8,.v (.slice none 0 0),ii 10] rfl (rq [(2,18),(3,7),(4,8)]) rfl (fun i hi=>by have inv : ∀ i,i<6→rq [(2,18),(3,7),(4,8)] i<19:=(by decide); exact inv i hi) (fun i hi j hj hne=>by have inj : ∀ i,i<6 → ∀ j,j<6→i≠j→rq [(2,18),(3,7),(4,8)] i≠rq [(2,18),(3,7),(4,8)] j:=(by decide); exact inj i hi j hj hne) (by decide)
    ⟨⟨by omega,trivial,⟨_,rfl,Conv.row (by decide) rfl⟩,.inl rfl,fun _=>by simp⟩,⟨by omega,trivial,⟨_,rfl,Conv.row (by decide) rfl⟩,.inl rfl,fun _=>by simp⟩,⟨by omega,trivial,⟨_,rfl,Conv.row (by decide) rfl⟩,.inl rfl,fun _=>by simp⟩,⟨by omega,trivial,⟨_,rfl,Conv.row (by decide) rfl⟩,.inl rfl,fun _=>by simp⟩,⟨by omega,trivial,⟨_,rfl,Conv.row (by decide) rfl⟩,.inl rfl,fun _=>by simp⟩,trivial⟩ (fun i hi=>by cases hi) (.tup [.opq 19,.agg [.opq 20,ii 2,.opq 21],ii 0]) [(19,.row 2 2 (([⟨1,0⟩,⟨3,1⟩]:List Evt).flatMap Evt.cells) 62),(14,.cells [.v (.slice none 0 0),ii 0,.v (.slice none 0 0)] 25),(2,.cells [.opq 0,ii 2,.opq 1] 25),(3,.cells (exRul.vals.map .v) 36),(0,.row 8 2 (([exPrm,exPrm].flatMap Prm.vals).map .v) 60),(1,.row 4 3 ((exS.flatMap Syn.vals).map .v) 55)] 22 rfl rfl
    ⟨.inr ⟨6,_,rfl,rfl,(oren_fix (S:=fun _=>False) (fun i hi=>hi.elim) (o := .row 2 2 (([⟨1,0⟩,⟨3,1⟩]:List Evt).flatMap Evt.cells) 62) (scs_evts _ _)).symm,rfl⟩,.inl ⟨rfl,fun i hi=>by cases hi⟩,.inl ⟨rfl,fun i hi=>by cases hi⟩,.inl ⟨rfl,fun i hi=>by cases hi⟩,.inl ⟨rfl,fun i hi=>by cases hi⟩,.inl ⟨rfl,fun i hi=>by cases hi⟩,trivial⟩ ?_
   refine Run.drawQ (hc [] none (fun _ h=>by cases h)) [6,7,8,9,11,12,13] [] [] hl2 ?_
   conv=>whnf
   refine ⟨by kernel_rfl,fun l3 hl3 => ?_,.inl rfl⟩
   obtain rfl:=hl3.nil
   exact Run.trim (T':=[(1,.ptr 2 0),(2,.ptr 3 0),(3,ii 2),(4,ii 0),(5,.opq 19),(7,ii 0)]) (M':=[(19,.row 2 2 (([⟨1,0⟩,⟨3,1⟩]:List Evt).flatMap Evt.cells) 62),(2,.cells [.opq 0,ii 2,.opq 1] 25),(3,.cells (exRul.vals.map .v) 36),(0,.row 8 2 (([exPrm,exPrm].flatMap Prm.vals).map .v) 60),(1,.row 4 3 ((exS.flatMap Syn.vals).map .v) 55)]) 36 ⟨⟨rfl,(show 2<36 by decide)⟩,⟨rfl,(show 3<36 by decide)⟩,⟨rfl,trivial⟩,⟨rfl,trivial⟩,⟨rfl,(show 19<36 by decide)⟩,⟨rfl,trivial⟩,trivial⟩ ⟨⟨rfl,by omega,scs_evts _ _⟩,⟨rfl,by omega,by simp [SObj.sc,SV.scs,SV.sc]⟩,⟨rfl,by omega,scs_v _ _⟩,⟨rfl,by omega,scs_v _ _⟩,⟨rfl,by omega,scs_v _ _⟩,trivial⟩ (fun p hp=>by cases hp) tail

 ·refine Run.of_wpK (hc [] none (fun _ h=>by cases h)) 1000 _ ?_
  conv=>whnf
  refine Run.callE (g:=22) (vs:=[.opq 19,.slc 36 0 2 2]) (caps:=[]) (.v (.bool true)) (fun ρ w1 hW=>by
   have h1:=hW.rowsAtR (i:=19) rfl (by decide)
   rw [evts_v,concs_v] at h1
   have h2:=hW.rowsAtS (i:=36) (e:=2) (n:=2) (cap:=2) rfl rfl (by decide)
   have:=same_run _ _ [⟨1,0⟩,⟨3,1⟩] [⟨1,0⟩,⟨3,1⟩] w1 h1 h2 (by decide)
   exact this) (ent _ _ Try.func22 (by kernel_rfl) rfl) rfl rfl rfl rfl rfl rfl rfl trivial ?_
  refine Run.of_wpK (hc [] none (fun _ h=>by cases h)) 1000 _ ?_
  conv=>whnf
  refine Run.callE (g:=35) (vs:=[.agg [.opq 0,ii 2,.opq 1],.agg (exRul.vals.map .v),.v (.slice none 0 0),.v (.slice none 0 0),.slc 37 0 1 1]) (caps:=[]) (.v (.bool true)) (fun ρ w1 hW=>by
   have h1:=hW.rowsAtR (i:=0) rfl (by decide)
   rw [concs_v] at h1
   have h2:=hW.rowsAtR (i:=1) rfl (by decide)
   rw [concs_v] at h2
   have h3:=hW.rowsAtS (i:=37) (e:=1) (n:=1) (cap:=1) rfl rfl (by decide)
   have hz : ∀ e,RowsAt w1 (.slice none 0 0) e 0 []:=fun e=>⟨by simp,none,0,rfl,Nat.le_refl _,.inl rfl⟩
   have:=trained_run _ _ exNet exRul _ [] _ [] _ [4] w1 ⟨h1,h2⟩ (hz 3) (hz 1) h3 (by decide) rfl ex_chk ex_prep (by unfold pzsChk; rfl)
   rw [ex_trd] at this
   exact this) (ent _ _ Try.func35 (by kernel_rfl) rfl) rfl rfl rfl rfl rfl rfl rfl trivial ?_
  refine Run.of_wpK (hc [] none (fun _ h=>by cases h)) 1000 _ ?_
  conv=>whnf
  exact ⟨fun ρ w' hW _=>⟨rfl,hW.toExt⟩⟩
end Go.Proofs.Ytnnlpdgnlccbjaa
