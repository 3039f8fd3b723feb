/-
  Walks of the functions of package neuron (part I): 'Next': what it computes.
  For every neuron and state, where the silence comes to a spike or to a state that remains after at most 2^62 ticks.
-/
import Derived.Test.YtoipnojibkjjnaaNeuH
namespace Go.Proofs.Ytoipnojibkjjnaa
open Go.Sx
set_option maxRecDepth 100000

/-- The state behind i silent ticks. -/
def nth (p : Prm) (s : Ste) : Nat → Ste
  | 0 => s
  | i + 1 => stepS p (nth p s i) 0
/-- The silence comes to its end with tick number N: a spike, or a state that remains. -/
def NextIs (p : Prm) (s : Ste) (N : Nat) : Prop :=
  (∀ i, i < N → stepB p (nth p s i) 0 = false ∧ nth p s (i + 1) ≠ nth p s i) ∧ (stepB p (nth p s N) 0 = true ∨ nth p s (N + 1) = nth p s N)
def nextV (p : Prm) (s : Ste) (N : Nat) : Int := if stepB p (nth p s N) 0 then (N : Int) else -1
def same (a b : Ste) : Bool := a.v == b.v && (a.rest == b.rest && true)
theorem same_iff (a b : Ste) : same a b = true ↔ a = b := by
  obtain ⟨av, ar⟩ := a
  obtain ⟨bv, br⟩ := b
  simp [same]

theorem Next_bad (p : Prm) (s : Ste) (w : World) (h : ¬ vld p s = 0) : Calls Try.prog 29 #[p.sv.conc env0, s.sv.conc env0] w fun e w' => e = .returned (.tuple #[.int .i64 0, .int .i64 (vld p s)]) ∧ Ext w w' := by
  have hc : ∀ (q : Cx), q = ⟨Try.prog, tab, [], 29, Try.f29, cuts29, w, [], none⟩ → q.ok := by
    rintro _ rfl
    exact ⟨tab_ok, trivial, Try.func29, mixed, fun _ h => by cases h⟩
  refine Run.start0 (tab := tab) (pf := []) (cuts := cuts29) mixed tab_ok trivial Try.func29 rfl [p.sv, s.sv] 1000 (by simp [SV.scs, SV.sc, Prm.sv, Prm.cells, Ste.sv, Ste.cells]) rfl ?_
  conv => whnf
  refine Run.newCell_bad p s h rfl rfl rfl rfl rfl rfl rfl rfl ?_
  refine Run.of_wpK (hc _ rfl) 1000 _ ?_
  conv => whnf
  split
  · rename_i hn
    conv => whnf
    exact ⟨fun ρ w' hW _ => ⟨rfl, hW.toExt⟩⟩
  · rename_i hn
    exact absurd (by simpa using hn) h

theorem Next_run (p : Prm) (s : Ste) (w : World) (h : vld p s = 0) (N : Nat) (hN : NextIs p s N) (hb : N < 4611686018427387904) :
    Calls Try.prog 29 #[p.sv.conc env0, s.sv.conc env0] w fun e w' => e = .returned (.tuple #[.int .i64 (nextV p s N), .int .i64 0]) ∧ Ext w w' := by
  have hc : ∀ (q : Cx), q = ⟨Try.prog, tab, [], 29, Try.f29, cuts29, w, [], none⟩ → q.ok := by
    rintro _ rfl
    exact ⟨tab_ok, trivial, Try.func29, mixed, fun _ h => by cases h⟩
  refine Run.start0 (tab := tab) (pf := []) (cuts := cuts29) mixed tab_ok trivial Try.func29 rfl [p.sv, s.sv] 1000 (by simp [SV.scs, SV.sc, Prm.sv, Prm.cells, Ste.sv, Ste.cells]) rfl ?_
  conv => whnf
  refine Run.newCell p s h rfl rfl rfl rfl rfl rfl rfl rfl ?_
  refine Run.of_wpK (hc _ rfl) 1000 _ ?_
  conv => whnf
  have hk := chk_known (vld_zero h).1
  refine Run.trim (T' := [(6, .ptr 2 0), (8, ii 0)]) (M' := [(2, .cells (cellOf p s) 63)]) 3 ⟨⟨rfl, by simp [SV.sc]⟩, ⟨rfl, trivial⟩, trivial⟩ ⟨⟨rfl, by omega, cellOf_sc _ _ _⟩, trivial⟩ (fun p hp => by cases hp) ?_
  refine Run.upTo (T := fun i => [(6, .ptr 2 0), (8, ii (i : Int))]) (M := fun i => [(2, .cells (cellOf p (nth p s i)) 63)]) N ?_ ?_
  · intro i hi ih
    refine Run.of_wpK (hc _ rfl) 1000 _ ?_
    conv => whnf
    refine Run.tick p (nth p s i) 0 2 hk rfl rfl rfl rfl rfl rfl rfl rfl rfl ?_
    rw [(hN.1 i hi).1]
    refine Run.of_wpK (hc _ rfl) 1000 _ ?_
    conv => whnf
    refine ⟨by kernel_rfl, ?_⟩
    conv => whnf
    have hq : ((stepS p (nth p s i) 0).v == (nth p s i).v && ((stepS p (nth p s i) 0).rest == (nth p s i).rest && true)) = false := by
      cases hq : ((stepS p (nth p s i) 0).v == (nth p s i).v && ((stepS p (nth p s i) 0).rest == (nth p s i).rest && true))
      · rfl
      · exact absurd ((same_iff _ _).1 hq) (hN.1 i hi).2
    rw [hq]
    conv => whnf
    rw [wrap_succ (by omega)]
    exact Run.trim (T' := [(6, .ptr 2 0), (8, ii ((i + 1 : Nat) : Int))]) (M' := [(2, .cells (cellOf p (stepS p (nth p s i) 0)) 63)]) 3 ⟨⟨rfl, by simp [SV.sc]⟩, ⟨rfl, trivial⟩, trivial⟩ ⟨⟨rfl, by omega, cellOf_sc _ _ _⟩, trivial⟩ (fun p hp => by cases hp) ih
  · refine Run.of_wpK (hc _ rfl) 1000 _ ?_
    conv => whnf
    refine Run.tick p (nth p s N) 0 2 hk rfl rfl rfl rfl rfl rfl rfl rfl rfl ?_
    cases hf : stepB p (nth p s N) 0 with
    | true =>
      refine Run.of_wpK (hc _ rfl) 1000 _ ?_
      conv => whnf
      refine ⟨fun ρ w' hW _ => ⟨?_, hW.toExt⟩⟩
      rw [nextV, hf, if_pos rfl]; rfl
    | false =>
      refine Run.of_wpK (hc _ rfl) 1000 _ ?_
      conv => whnf
      refine ⟨by kernel_rfl, ?_⟩
      conv => whnf
      have hq : ((stepS p (nth p s N) 0).v == (nth p s N).v && ((stepS p (nth p s N) 0).rest == (nth p s N).rest && true)) = true := by
        refine (same_iff _ _).2 ?_
        rcases hN.2 with h | h
        · rw [hf] at h; cases h
        · exact h
      rw [hq]
      conv => whnf
      refine ⟨fun ρ w' hW _ => ⟨?_, hW.toExt⟩⟩
      rw [nextV, hf]; rfl
end Go.Proofs.Ytoipnojibkjjnaa
