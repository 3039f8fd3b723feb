/-
  Walk of the statement 'NeuronChecks': it returns true.
  For every input; the world only gets new blocks.
-/
import Derived.Test.YtoipnojibkjjnaaLawA
namespace Go.Proofs.Ytoipnojibkjjnaa
open Go.Sx
set_option maxRecDepth 100000

abbrev pfC (ck : Prm → Int) (vd : Prm → Ste → Int) : PF := (24, FP fun p => .int .i64 (ck p)) :: (25, FP fun p => .int .i64 (ck p)) :: (21, FPS fun p s => .int .i64 (vd p s)) :: (26, FPS fun p s => .int .i64 (vd p s)) :: pfW
theorem pfC_ok : PF.oks Try.prog (pfC chk vld) := ⟨check_pure, rcheck_pure, valid_pure, rvalid_pure, pfW_ok⟩

theorem neuronChecks_walk (p : Prm) (_ : p.fits) (s : Ste) (_ : s.fits) (x : Int) (_ : I64 x) (w : World) : Calls Try.prog 7 #[p.sv.conc env0, s.sv.conc env0, .int .i64 x] w fun e w' => e = .returned (.bool true) ∧ Ext w w' := by
  obtain ⟨ck, hck⟩ : ∃ ck : Prm → Int, chk = ck := ⟨chk, rfl⟩
  obtain ⟨vd, hvd⟩ : ∃ vd : Prm → Ste → Int, vld = vd := ⟨vld, rfl⟩
  have hpf : PF.oks Try.prog (pfC ck vd) := by rw [← hck, ← hvd]; exact pfC_ok
  have hc : ∀ (q : Cx), q = ⟨Try.prog, tab, pfC ck vd, 7, Try.f7, [], w, [], none⟩ → q.ok := by
    rintro _ rfl
    exact ⟨tab_ok, hpf, Try.func7, mixed, fun _ h => by cases h⟩
  have e1 : ∃ a, ∃ e : Int, leakV p x = .tuple #[.int .i64 a, .int .i64 e] := by
    unfold leakV
    split
    · exact ⟨_, _, rfl⟩
    · split
      · exact ⟨_, _, rfl⟩
      · exact ⟨_, _, rfl⟩
  obtain ⟨a, e, e1⟩ := e1
  have e2 := leakV_same p x
  rw [e1] at e2
  refine Run.start0 (tab := tab) (pf := pfC ck vd) (cuts := []) mixed tab_ok hpf Try.func7 rfl [p.sv, s.sv, ii x] 1000 (by simp [SV.scs, SV.sc, Prm.sv, Prm.cells, Ste.sv, Ste.cells]) rfl ?_
  conv => whnf
  refine Run.callE (g := 22) (vs := [p.sv, ii x]) (caps := []) (.tup [ii a, ii e]) (fun ρ w _ => (Leak_run p x w).mono fun _ w' ⟨he, hx⟩ => ⟨by rw [he, e1]; rfl, hx⟩) (ent _ _ Try.func22 (by kernel_rfl) rfl) rfl rfl rfl rfl rfl rfl rfl ⟨trivial, trivial, trivial⟩ ?_
  refine Run.of_wpK (hc _ rfl) 1000 _ ?_
  conv => whnf
  refine Run.callE (g := 23) (vs := [p.sv, ii x]) (caps := []) (.tup [ii a, ii e]) (fun ρ w _ => (rLeak_run p x w).mono fun _ w' ⟨he, hx⟩ => ⟨by rw [he, ← e2]; rfl, hx⟩) (ent _ _ Try.func23 (by kernel_rfl) rfl) rfl rfl rfl rfl rfl rfl rfl ⟨trivial, trivial, trivial⟩ ?_
  refine Run.of_wpK (hc _ rfl) 1000 _ ?_
  conv => whnf
  refine Run.draw (hc _ rfl) 22 ?_
  rw [show upto 0 22 = upto 0 7 ++ upto 7 15 from rfl, drawK_app]
  conv => whnf
  rw [show (ck ⟨p.lk, p.leak, p.bias, p.thr, p.rk, p.reset, p.floor, p.rest⟩ == ck ⟨p.lk, p.leak, p.bias, p.thr, p.rk, p.reset, p.floor, p.rest⟩) = true by simp]
  conv => whnf
  rw [show (vd ⟨p.lk, p.leak, p.bias, p.thr, p.rk, p.reset, p.floor, p.rest⟩ ⟨s.v, s.rest⟩ == vd ⟨p.lk, p.leak, p.bias, p.thr, p.rk, p.reset, p.floor, p.rest⟩ ⟨s.v, s.rest⟩) = true by simp]
  conv => whnf
  rw [show (a == a) = true by simp]
  conv => whnf
  refine ⟨by kernel_rfl, ?_⟩
  refine Run.of_wpK (hc _ rfl) 1000 _ ?_
  conv => whnf
  rw [show (e == e) = true by simp]
  conv => whnf
  exact ⟨fun ρ w' hW _ => ⟨rfl, hW.toExt⟩⟩
end Go.Proofs.Ytoipnojibkjjnaa
