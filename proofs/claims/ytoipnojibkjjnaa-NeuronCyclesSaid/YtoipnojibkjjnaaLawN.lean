/-
  Walk of the statement 'NeuronCycles': it returns true.
  For every input; the world only gets new blocks.
-/
import Derived.Test.YtoipnojibkjjnaaRefG
namespace Go.Proofs.Ytoipnojibkjjnaa
open Go.Sx
set_option maxRecDepth 100000

theorem rCycle_bad (p : Prm) (s : Ste) (x : Int) (w : World) (h : ¬ vld p s = 0) : Calls Try.prog 36 #[p.sv.conc env0, s.sv.conc env0, .int .i64 x] w fun e w' => e = .returned (.tuple #[.int .i64 0, .int .i64 0, .int .i64 0, .int .i64 (vld p s)]) ∧ Ext w w' := by
  obtain ⟨vd, hvd⟩ : ∃ vd : Prm → Ste → Int, vld = vd := ⟨vld, rfl⟩
  have hpf : PF.oks Try.prog [(26, FPS fun p s => .int .i64 (vd p s))] := by rw [← hvd]; exact ⟨rvalid_pure, trivial⟩
  rw [hvd] at h ⊢
  refine Run.start0 (tab := tab) (pf := [(26, FPS fun p s => .int .i64 (vd p s))]) (cuts := []) mixed tab_ok hpf Try.func36 rfl [p.sv, s.sv, ii x] 1000 (by simp [SV.scs, SV.sc, Prm.sv, Prm.cells, Ste.sv, Ste.cells]) rfl ?_
  conv => whnf
  rw [show (vd ⟨p.lk, p.leak, p.bias, p.thr, p.rk, p.reset, p.floor, p.rest⟩ ⟨s.v, s.rest⟩ != 0) = true from bne_iff_ne.2 h]
  conv => whnf
  exact ⟨fun ρ w' hW _ => ⟨rfl, hW.toExt⟩⟩

/-- What 'Cycle' finds is what a search in the order of the ticks finds. -/
theorem cycle_both (p : Prm) (s : Ste) (x : Int) (h : vld p s = 0) : ∃ N mu, N ≤ 65536 ∧ (∀ i, i < N → ∀ j, j ≤ i → sq p s x j ≠ sq p s x (i + 1)) ∧ (N ≠ 65536 → mu ≤ N ∧ sq p s x mu = sq p s x (N + 1) ∧ ∀ j, j < mu → sq p s x j ≠ sq p s x (N + 1)) ∧
    ∀ w, Calls Try.prog 35 #[p.sv.conc env0, s.sv.conc env0, .int .i64 x] w fun e w' => e = .returned (cycR p s x N mu) ∧ Ext w w' := by
  obtain ⟨N, hNb, hN, hN1⟩ := exists_least (StopAt p s x) 262144 (.inr (by omega))
  obtain ⟨m1, m2, m3⟩ := mw_inv N
  have err : cycR p s x 65536 0 = .tuple #[.int .i64 0, .int .i64 0, .int .i64 0, .int .i64 8] := if_pos rfl
  cases hq : same (sq p s x (N + 1)) (sq p s x (mw N).1)
  · have hN2 : 262144 < N + 1 := by
      rcases hN with h1 | h1
      · rw [(same_iff _ _).2 h1] at hq; cases hq
      · exact h1
    refine ⟨65536, 0, Nat.le_refl _, fun i hi j hj => stop_apart hN2 hN1 (by omega) (by omega), fun hc => absurd rfl hc, fun w => ?_⟩
    have := Cycle_run p s x w h N hN hN1 hNb 0 (fun hc => by rw [(same_iff _ _).2 hc] at hq; cases hq)
    have e : cycV p s x N 0 = .tuple #[.int .i64 0, .int .i64 0, .int .i64 0, .int .i64 8] := if_neg (fun hc => absurd (hq.symm.trans hc) (by decide))
    rw [e, ← err] at this
    exact this
  · have he := (same_iff _ _).1 hq
    obtain ⟨mu, hm1, hm2, hm3⟩ := exists_least (fun k => sq p s x k = sq p s x (k + (N + 1 - (mw N).1))) (mw N).1 (by
      show sq p s x (mw N).1 = sq p s x ((mw N).1 + (N + 1 - (mw N).1))
      rw [show (mw N).1 + (N + 1 - (mw N).1) = N + 1 by omega]; exact he.symm)
    have hmu : sq p s x mu = sq p s x (mu + (N + 1 - (mw N).1)) ∧ mu ≤ N ∧ ∀ k, k < mu → sq p s x k ≠ sq p s x (k + (N + 1 - (mw N).1)) := ⟨hm2, by omega, hm3⟩
    have hrun := fun w => Cycle_run p s x w h N hN hN1 hNb mu (fun _ => hmu)
    have hic := cycle_facts he hN1 hmu
    have e : cycV p s x N mu = (if mu + (N + 1 - (mw N).1) ≤ 65536 then .tuple #[.int .i64 (mu : Int), .int .i64 ((N + 1 - (mw N).1 : Nat) : Int), .int .i64 (cnt p s x mu (N + 1 - (mw N).1) : Int), .int .i64 0] else .tuple #[.int .i64 0, .int .i64 0, .int .i64 0, .int .i64 8]) := if_pos hq
    generalize N + 1 - (mw N).1 = lam at hic e
    have hpos := hic.pos
    by_cases hle : mu + lam ≤ 65536
    · rw [if_pos hle] at e
      rw [e] at hrun
      refine ⟨mu + lam - 1, mu, by omega, fun i hi j hj => hic.apart (by omega) (by omega), fun _ => ⟨by omega, ?_, fun j hj => ?_⟩, ?_⟩
      · rw [show mu + lam - 1 + 1 = mu + lam by omega]; exact hic.eq
      · rw [show mu + lam - 1 + 1 = mu + lam by omega, ← hic.eq]; exact hic.apart hj (by omega)
      · have e2 : cycR p s x (mu + lam - 1) mu = _ := if_neg (by omega)
        rw [e2, show mu + lam - 1 + 1 - mu = lam by omega]
        exact hrun
    · rw [if_neg hle] at e
      rw [e, ← err] at hrun
      exact ⟨65536, 0, Nat.le_refl _, fun i hi j hj => hic.apart (by omega) (by omega), fun hc => absurd rfl hc, hrun⟩

theorem neuronCycles_walk (w : World) (p : Prm) (_ : p.fits) (s : Ste) (_ : s.fits) (x : Int) (_ : I64 x) :
    Calls Try.prog 12 #[p.sv.conc env0, s.sv.conc env0, .int .i64 x] w fun e w' => e = .returned (.bool true) ∧ Ext w w' := by
  have hc : ∀ (q : Cx), q = ⟨Try.prog, tab, pfW, 12, Try.f12, [], w, [], none⟩ → q.ok := by
    rintro _ rfl
    exact ⟨tab_ok, pfW_ok, Try.func12, mixed, fun _ h => by cases h⟩
  obtain ⟨a, b, c, d, h1, h2⟩ : ∃ a b c d : Int, (∀ w, Calls Try.prog 35 #[p.sv.conc env0, s.sv.conc env0, .int .i64 x] w fun e w' => e = .returned (.tuple #[.int .i64 a, .int .i64 b, .int .i64 c, .int .i64 d]) ∧ Ext w w') ∧
      ∀ w, Calls Try.prog 36 #[p.sv.conc env0, s.sv.conc env0, .int .i64 x] w fun e w' => e = .returned (.tuple #[.int .i64 a, .int .i64 b, .int .i64 c, .int .i64 d]) ∧ Ext w w' := by
    by_cases hv : vld p s = 0
    · obtain ⟨N, mu, q1, q2, q3, q4⟩ := cycle_both p s x hv
      have q5 := fun w => rCycle_run p s x w hv N mu q1 q2 q3
      by_cases hN : N = 65536
      · have e : cycR p s x N mu = _ := if_pos hN
        rw [e] at q4 q5
        exact ⟨_, _, _, _, q4, q5⟩
      · have e : cycR p s x N mu = _ := if_neg hN
        rw [e] at q4 q5
        exact ⟨_, _, _, _, q4, q5⟩
    · exact ⟨_, _, _, _, fun w => Cycle_bad p s x w hv, fun w => rCycle_bad p s x w hv⟩
  refine Run.start0 (tab := tab) (pf := pfW) (cuts := []) mixed tab_ok pfW_ok Try.func12 rfl [p.sv, s.sv, ii x] 1000 (by simp [SV.scs, SV.sc, Prm.sv, Prm.cells, Ste.sv, Ste.cells]) rfl ?_
  conv => whnf
  refine Run.callE (g := 35) (vs := [p.sv, s.sv, ii x]) (caps := []) (.tup [ii a, ii b, ii c, ii d]) (fun ρ w _ => (h1 w).mono fun _ w' ⟨he, hx⟩ => ⟨by rw [he]; rfl, hx⟩) (ent _ _ Try.func35 (by kernel_rfl) rfl) rfl rfl rfl rfl rfl rfl rfl ⟨trivial, trivial, trivial, trivial, trivial⟩ ?_
  refine Run.of_wpK (hc _ rfl) 1000 _ ?_
  conv => whnf
  refine Run.callE (g := 36) (vs := [p.sv, s.sv, ii x]) (caps := []) (.tup [ii a, ii b, ii c, ii d]) (fun ρ w _ => (h2 w).mono fun _ w' ⟨he, hx⟩ => ⟨by rw [he]; rfl, hx⟩) (ent _ _ Try.func36 (by kernel_rfl) rfl) rfl rfl rfl rfl rfl rfl rfl ⟨trivial, trivial, trivial, trivial, trivial⟩ ?_
  refine Run.of_wpK (hc _ rfl) 1000 _ ?_
  conv => whnf
  rw [show (a == a) = true by simp]
  conv => whnf
  rw [show (b == b) = true by simp]
  conv => whnf
  rw [show (c == c) = true by simp]
  conv => whnf
  rw [show (d == d) = true by simp]
  conv => whnf
  exact ⟨fun ρ w' hW _ => ⟨rfl, hW.toExt⟩⟩
end Go.Proofs.Ytoipnojibkjjnaa
