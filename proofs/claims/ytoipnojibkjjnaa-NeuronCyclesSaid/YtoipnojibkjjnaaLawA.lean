/-
  Walk of the statement 'NeuronTicks': it returns true.
  For every input; the world only gets new blocks.
-/
import Derived.Test.YtoipnojibkjjnaaNeuJ
import Derived.Test.YtoipnojibkjjnaaArgs
namespace Go.Proofs.Ytoipnojibkjjnaa
open Go.Sx
set_option maxRecDepth 100000

theorem works_pure_v : PureV Try.prog 17 (FC_v (.v (.bool true))) where
  ent := ent _ _ Try.func17 (by kernel_rfl) rfl
  sc S args v h _ := by
    cases args <;> simp [FC_v] at h
    subst h
    trivial
  run ρ args v w h := by
    cases args <;> simp [FC_v] at h
    subst h
    exact works_run w
theorem works_pure : Pure Try.prog 17 (FC (.v (.bool true))) := (works_pure_v).lift
abbrev pfW : PF := [(17, FC (.v (.bool true)))]
theorem pfW_ok : PF.oks Try.prog pfW := ⟨works_pure, trivial⟩

theorem neuronTicks_walk (w : World) (p : Prm) (_ : p.fits) (s : Ste) (_ : s.fits) (x : Int) (_ : I64 x) : Calls Try.prog 3 #[p.sv.conc env0, s.sv.conc env0, .int .i64 x] w fun e w' => e = .returned (.bool true) ∧ Ext w w' := by
  have hc : ∀ (q : Cx), q = ⟨Try.prog, tab, pfW, 3, Try.f3, [], w, [], none⟩ → q.ok := by
    rintro _ rfl
    exact ⟨tab_ok, pfW_ok, Try.func3, mixed, fun _ h => by cases h⟩
  have e1 : ∃ a b, ∃ f : Bool, ∃ e : Int, tickV p s x = .tuple #[.agg #[.int .i64 a, .int .i64 b], .bool f, .int .i64 e] := by
    unfold tickV
    split
    · exact ⟨_, _, _, _, rfl⟩
    · exact ⟨_, _, _, _, rfl⟩
  obtain ⟨a, b, f, e, e1⟩ := e1
  have e2 := tick_same p s x
  rw [e1] at e2
  refine Run.start0 (tab := tab) (pf := pfW) (cuts := []) mixed tab_ok pfW_ok Try.func3 rfl [p.sv, s.sv, ii x] 1000 (by simp [SV.scs, SV.sc, Prm.sv, Prm.cells, Ste.sv, Ste.cells]) rfl ?_
  conv => whnf
  refine Run.callE (g := 15) (vs := [p.sv, s.sv, ii x]) (caps := []) (.tup [.agg [ii a, ii b], .v (.bool f), ii e]) (fun ρ w _ => (Tick_run p s x w).mono fun _ w' ⟨he, hx⟩ => ⟨by rw [he, e1]; rfl, hx⟩) (ent _ _ Try.func15 (by kernel_rfl) rfl) rfl rfl rfl rfl rfl rfl rfl ⟨⟨trivial, trivial, trivial⟩, trivial, trivial, trivial⟩ ?_
  refine Run.of_wpK (hc _ rfl) 1000 _ ?_
  conv => whnf
  refine Run.callE (g := 16) (vs := [p.sv, s.sv, ii x]) (caps := []) (.tup [.agg [ii a, ii b], .v (.bool f), ii e]) (fun ρ w _ => (rTick_run p s x w).mono fun _ w' ⟨he, hx⟩ => ⟨by rw [he, ← e2]; rfl, hx⟩) (ent _ _ Try.func16 (by kernel_rfl) rfl) rfl rfl rfl rfl rfl rfl rfl ⟨⟨trivial, trivial, trivial⟩, trivial, trivial, trivial⟩ ?_
  refine Run.of_wpK (hc _ rfl) 1000 _ ?_
  conv => whnf
  rw [show (a == a && (b == b && true)) = true by simp]
  conv => whnf
  rw [show (f == f) = true by simp]
  conv => whnf
  rw [show (e == e) = true by simp]
  conv => whnf
  exact ⟨fun ρ w' hW _ => ⟨rfl, hW.toExt⟩⟩
end Go.Proofs.Ytoipnojibkjjnaa
