/-
  What 'Cycle' says is so: plain laws of its search.
  For every neuron, state and input.
-/
import Derived.Test.YtoipnojibkjjnaaNeuK
namespace Go.Proofs.Ytoipnojibkjjnaa
open Go.Sx

theorem exists_least (P : Nat → Prop) : ∀ k, P k → ∃ N, N ≤ k ∧ P N ∧ ∀ j, j < N → ¬ P j := by
  intro k
  induction k using Nat.strongRecOn with
  | _ k ih =>
    intro hk
    by_cases h : ∃ j, j < k ∧ P j
    · obtain ⟨j, hj, hp⟩ := h
      obtain ⟨N, h1, h2, h3⟩ := ih j hj hp
      exact ⟨N, by omega, h2, h3⟩
    · exact ⟨k, Nat.le_refl _, hk, fun j hj hp => h ⟨j, hj, hp⟩⟩
theorem mw_const : ∀ (N i : Nat), (mw N).1 ≤ i → i ≤ N → (mw i).1 = (mw N).1
  | 0, i, _, h => by
    have e : i = 0 := by omega
    rw [e]
  | N + 1, i, h1, h2 => by
    rcases Nat.lt_or_ge i (N + 1) with hlt | hge
    · by_cases hc : N + 1 - (mw N).1 = (mw N).2
      · have e : mw (N + 1) = (N + 1, 2 * (mw N).2) := by rw [mw, if_pos hc]
        rw [e] at h1
        simp only at h1
        omega
      · have e : mw (N + 1) = mw N := by rw [mw, if_neg hc]
        rw [e] at h1 ⊢
        exact mw_const N i h1 (by omega)
    · have e : i = N + 1 := by omega
      rw [e]
theorem sq_shift {p : Prm} {s : Ste} {x : Int} {a b : Nat} (h : sq p s x a = sq p s x b) : ∀ k, sq p s x (a + k) = sq p s x (b + k)
  | 0 => h
  | k + 1 => by
    have := sq_shift h k
    show stepS p (sq p s x (a + k)) x = stepS p (sq p s x (b + k)) x
    rw [this]

/-- A cycle: where it begins, its length. -/
structure IsCycle (p : Prm) (s : Ste) (x : Int) (mu lam : Nat) : Prop where
  pos : 1 ≤ lam
  eq : sq p s x mu = sq p s x (mu + lam)
  first : ∀ k, k < mu → sq p s x k ≠ sq p s x (k + lam)
  least : ∀ k, 0 < k → k < lam → sq p s x (mu + k) ≠ sq p s x mu

theorem cycle_facts {p : Prm} {s : Ste} {x : Int} {N mu : Nat} (he : sq p s x (N + 1) = sq p s x (mw N).1) (hN1 : ∀ i, i < N → ¬ StopAt p s x i)
    (hmu : sq p s x mu = sq p s x (mu + (N + 1 - (mw N).1)) ∧ mu ≤ N ∧ ∀ k, k < mu → sq p s x k ≠ sq p s x (k + (N + 1 - (mw N).1))) : IsCycle p s x mu (N + 1 - (mw N).1) := by
  obtain ⟨m1, m2, m3⟩ := mw_inv N
  obtain ⟨h1, h2, h3⟩ := hmu
  refine ⟨by omega, h1, h3, fun k hk0 hk hc => ?_⟩
  have hle : mu ≤ (mw N).1 := by
    rcases Nat.lt_or_ge (mw N).1 mu with hlt | hge
    · exfalso
      refine h3 (mw N).1 hlt ?_
      rw [show (mw N).1 + (N + 1 - (mw N).1) = N + 1 by omega]
      exact he.symm
    · exact hge
  have hm := sq_shift hc ((mw N).1 - mu)
  rw [show mu + k + ((mw N).1 - mu) = (mw N).1 + k by omega, show mu + ((mw N).1 - mu) = (mw N).1 by omega] at hm
  have hns := hN1 ((mw N).1 + k - 1) (by omega)
  refine hns (.inl ?_)
  rw [mw_const N ((mw N).1 + k - 1) (by omega) (by omega), show (mw N).1 + k - 1 + 1 = (mw N).1 + k by omega]
  exact hm

/-- What 'Cycle' gives. -/
theorem Cycle_all (p : Prm) (s : Ste) (x : Int) (h : vld p s = 0) : (∀ w, Calls Try.prog 35 #[p.sv.conc env0, s.sv.conc env0, .int .i64 x] w fun e w' => e = .returned (.tuple #[.int .i64 0, .int .i64 0, .int .i64 0, .int .i64 8]) ∧ Ext w w') ∨
    ∃ mu lam : Nat, IsCycle p s x mu lam ∧ mu + lam ≤ 65536 ∧ ∀ w, Calls Try.prog 35 #[p.sv.conc env0, s.sv.conc env0, .int .i64 x] w fun e w' => e = .returned (.tuple #[.int .i64 (mu : Int), .int .i64 (lam : Int), .int .i64 (cnt p s x mu lam : Int), .int .i64 0]) ∧ Ext w w' := by
  obtain ⟨N, hNb, hN, hN1⟩ := exists_least (StopAt p s x) 262144 (.inr (by omega))
  obtain ⟨m1, m2, m3⟩ := mw_inv N
  cases hq : same (sq p s x (N + 1)) (sq p s x (mw N).1)
  · left
    intro w
    have := Cycle_run p s x w h N hN hN1 hNb 0 (fun hc => by rw [(same_iff _ _).2 hc] at hq; cases hq)
    have e : cycV p s x N 0 = .tuple #[.int .i64 0, .int .i64 0, .int .i64 0, .int .i64 8] := if_neg (fun hc => absurd (hq.symm.trans hc) (by decide))
    rw [e] at this
    exact this
  · have he := (same_iff _ _).1 hq
    obtain ⟨mu, hm1, hm2, hm3⟩ := exists_least (fun k => sq p s x k = sq p s x (k + (N + 1 - (mw N).1))) (mw N).1 (by
      show sq p s x (mw N).1 = sq p s x ((mw N).1 + (N + 1 - (mw N).1))
      rw [show (mw N).1 + (N + 1 - (mw N).1) = N + 1 by omega]; exact he.symm)
    have hmu : sq p s x mu = sq p s x (mu + (N + 1 - (mw N).1)) ∧ mu ≤ N ∧ ∀ k, k < mu → sq p s x k ≠ sq p s x (k + (N + 1 - (mw N).1)) := ⟨hm2, by omega, hm3⟩
    have hrun := fun w => Cycle_run p s x w h N hN hN1 hNb mu (fun _ => hmu)
    have e : cycV p s x N mu = (if mu + (N + 1 - (mw N).1) ≤ 65536 then .tuple #[.int .i64 (mu : Int), .int .i64 ((N + 1 - (mw N).1 : Nat) : Int), .int .i64 (cnt p s x mu (N + 1 - (mw N).1) : Int), .int .i64 0] else .tuple #[.int .i64 0, .int .i64 0, .int .i64 0, .int .i64 8]) := if_pos hq
    by_cases hle : mu + (N + 1 - (mw N).1) ≤ 65536
    · right
      rw [if_pos hle] at e
      rw [e] at hrun
      exact ⟨mu, N + 1 - (mw N).1, cycle_facts he hN1 hmu, hle, hrun⟩
    · left
      rw [if_neg hle] at e
      rw [e] at hrun
      exact hrun
end Go.Proofs.Ytoipnojibkjjnaa
