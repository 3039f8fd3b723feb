/-
  Walks of the functions of package neuron and of its reference (part B): 'Check' at every neuron, 'Valid', 'newCell', 'tick', 'Tick', 'Leak'; the reference's 'Check', 'Valid', 'leak', 'Go', 'Tick', 'Leak': what they compute.
  For every argument; the world only gets new blocks.
-/
import Derived.Test.YtoipnojibkjjnaaNeuA
namespace Go.Proofs.Ytoipnojibkjjnaa
open Go.Sx
set_option maxRecDepth 100000

theorem check_other (p : Prm) (h0 : (p.lk == 0) = false) (h1 : (p.lk == 1) = false) (h2 : (p.lk == 2) = false) (w : World) : Calls Try.prog 24 #[p.sv.conc env0] w fun e w' => e = .returned (.int .i64 (chk p)) ∧ Ext w w' := by
  obtain ⟨lk, leak, bias, thr, rk, reset, floor, rest⟩ := p
  simp only at h0 h1 h2
  refine Run.start0 (tab := tab) (pf := []) (cuts := cuts24) mixed tab_ok trivial Try.func24 rfl [.agg [ii lk, ii leak, ii bias, ii thr, ii rk, ii reset, ii floor, ii rest]] 1000 (by simp [SV.scs, SV.sc]) rfl ?_
  conv => whnf
  refine Run.callE (vs := [ii lk]) (caps := []) (.tup [.agg [ii 0, .v .nilFunc], .v (.bool false)]) (fun ρ w _ => leaks_run ρ lk w _ ?_) leaks_pure.ent rfl rfl rfl rfl rfl rfl rfl (by simp [SV.sc, SV.scs]) ?_
  · simp [Fleaks_v, h0, h1, h2]
  · refine Run.of_wpK ⟨tab_ok, (show PF.oks Try.prog [] from trivial), Try.func24, mixed, fun _ h => by cases h⟩ 1000 _ ?_
    conv => whnf
    exact ⟨fun ρ w' hW _ => ⟨by simp [chk, h0, h1, h2, SV.conc], hW.toExt⟩⟩
theorem check_run (p : Prm) (w : World) : Calls Try.prog 24 #[p.sv.conc env0] w fun e w' => e = .returned (.int .i64 (chk p)) ∧ Ext w w' := by
  by_cases h : p.lk = 0 ∨ p.lk = 1 ∨ p.lk = 2
  · exact check_known p h w
  · exact check_other p (by simp; omega) (by simp; omega) (by simp; omega) w

def FP_v (f : Prm → Value) : List SV → Option SV
  | [x] => match prmOf x.cells with
    | some p => some (.v (f p))
    | none => none
  | _ => none
abbrev FP (f : Prm → Value) : Mem → List SV → Option (List Nat × SV) := plainF (FP_v f)
theorem PureV.ofP {g : FuncId} {f : Prm → Value} (he : Enters Try.prog g) (h : ∀ (p : Prm) w, Calls Try.prog g #[p.sv.conc env0] w fun e w' => e = .returned (f p) ∧ Ext w w') : PureV Try.prog g (FP_v f) where
  ent := he
  sc S args v hv _ := by
    unfold FP_v at hv
    split at hv
    · split at hv
      · obtain rfl := Option.some.inj hv; trivial
      · cases hv
    · cases hv
  run ρ args v w hv := by
    unfold FP_v at hv
    split at hv
    · split at hv
      · rename_i x _ p hp
        obtain rfl := Option.some.inj hv
        have := h p w
        simp only [SV.concs, prm_conc ρ hp]
        exact this
      · cases hv
    · cases hv
theorem Pure.ofP {g : FuncId} {f : Prm → Value} (he : Enters Try.prog g) (h : ∀ (p : Prm) w, Calls Try.prog g #[p.sv.conc env0] w fun e w' => e = .returned (f p) ∧ Ext w w') : Pure Try.prog g (FP f) := (PureV.ofP he h).lift
theorem check_pure : Pure Try.prog 24 (FP fun p => .int .i64 (chk p)) := Pure.ofP (ent _ _ Try.func24 (by kernel_rfl) rfl) check_run

/-! ### States -/
structure Ste where
  v : Int
  rest : Int
def Ste.cells (s : Ste) : List SV := [ii s.v, ii s.rest]
def Ste.sv (s : Ste) : SV := .agg s.cells
def steOf : List SV → Option Ste
  | [.v (.int .i64 a), .v (.int .i64 b)] => some ⟨a, b⟩
  | _ => none
theorem steOf_eq {l : List SV} {s : Ste} (h : steOf l = some s) : l = s.cells := by
  unfold steOf at h
  split at h
  · obtain rfl := Option.some.inj h; rfl
  · cases h
theorem ste_conc {x : SV} {s : Ste} (ρ : Env) (h : steOf x.cells = some s) : x.conc ρ = .agg (SV.concs ρ s.cells).toArray := by
  have := steOf_eq h
  cases x with
  | agg cs => simp only [SV.cells] at this; subst this; rfl
  | v y =>
    cases y with
    | agg cs =>
      simp only [SV.cells] at this
      have h2 := congrArg (SV.concs ρ) this
      rw [concs_v] at h2
      simp only [SV.conc, ← h2, Array.toArray_toList]
    | _ => simp [SV.cells, Ste.cells] at this
  | _ => simp [SV.cells, Ste.cells] at this

def vld (p : Prm) (s : Ste) : Int := if chk p != 0 then chk p else if !wi s.v p.floor 1048576 || !wi s.rest 0 p.rest then 3 else 0

abbrev pf2 : PF := (24, FP fun p => .int .i64 (chk p)) :: pf1
theorem pf2_ok : PF.oks Try.prog pf2 := ⟨check_pure, pf1_ok⟩

theorem valid_run (p : Prm) (s : Ste) (w : World) : Calls Try.prog 21 #[p.sv.conc env0, s.sv.conc env0] w fun e w' => e = .returned (.int .i64 (vld p s)) ∧ Ext w w' := by
  obtain ⟨lk, leak, bias, thr, rk, reset, floor, rest⟩ := p
  obtain ⟨sv, sr⟩ := s
  refine Run.start0 (tab := tab) (pf := pf2) (cuts := []) mixed tab_ok pf2_ok Try.func21 rfl [.agg [ii lk, ii leak, ii bias, ii thr, ii rk, ii reset, ii floor, ii rest], .agg [ii sv, ii sr]] 1000 (by simp [SV.scs, SV.sc]) rfl ?_
  conv => whnf
  cases hc : chk ⟨lk, leak, bias, thr, rk, reset, floor, rest⟩ != 0
  · conv => whnf
    cases h1 : wi sv floor 1048576
    · conv => whnf
      exact ⟨fun ρ w' hW _ => ⟨by simp only [vld, hc, h1]; rfl, hW.toExt⟩⟩
    · conv => whnf
      cases h2 : wi sr 0 rest
      all_goals
        conv => whnf
        exact ⟨fun ρ w' hW _ => ⟨by simp only [vld, hc, h1, h2]; rfl, hW.toExt⟩⟩
  · conv => whnf
    exact ⟨fun ρ w' hW _ => ⟨by simp only [vld, hc]; rfl, hW.toExt⟩⟩
end Go.Proofs.Ytoipnojibkjjnaa
