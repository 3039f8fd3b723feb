/-
  Plain laws of neurons: before a sequence of states comes back, all of them are different; what 'Cycle' finds, and what it does not find.
  For every neuron.
-/
import Derived.Test.YtoipnojibkjjnaaNeuL
namespace Go.Proofs.Ytoipnojibkjjnaa
open Go.Sx

theorem sq_back {p : Prm} {s : Ste} {x : Int} {a d : Nat} (h : sq p s x a = sq p s x (a + d)) : ∀ m, sq p s x a = sq p s x (a + d * m)
  | 0 => rfl
  | m + 1 => by
    have h1 := sq_back h m
    have h2 := sq_shift h (d * m)
    rw [h1, h2]
    congr 1
    rw [Nat.mul_succ]; omega
/-- All states ahead of the return are different. -/
theorem IsCycle.apart {p : Prm} {s : Ste} {x : Int} {mu lam : Nat} (h : IsCycle p s x mu lam) {a b : Nat} (hab : a < b) (hb : b < mu + lam) : sq p s x a ≠ sq p s x b := by
  intro he
  have hpos := h.pos
  by_cases ha : mu ≤ a
  · obtain ⟨i, rfl⟩ : ∃ i, a = mu + i := ⟨a - mu, by omega⟩
    have h1 := sq_shift he (lam - i)
    rw [show mu + i + (lam - i) = mu + lam by omega, ← h.eq, show b + (lam - i) = (mu + lam) + (b - (mu + i)) by omega, ← sq_shift h.eq (b - (mu + i))] at h1
    exact h.least (b - (mu + i)) (by omega) (by omega) h1.symm
  · obtain ⟨d, rfl⟩ : ∃ d, b = a + d := ⟨b - a, by omega⟩
    have h1 := sq_back he mu
    have hge : mu ≤ a + d * mu := by
      have : 1 * mu ≤ d * mu := Nat.mul_le_mul_right mu (by omega)
      omega
    have h2 : sq p s x (a + d * mu) = sq p s x (a + d * mu + lam) := by
      have := sq_shift h.eq (a + d * mu - mu)
      rw [show mu + (a + d * mu - mu) = a + d * mu by omega, show mu + lam + (a + d * mu - mu) = a + d * mu + lam by omega] at this
      exact this
    have h3 := sq_shift h1 lam
    rw [show a + d * mu + lam = a + d * mu + lam from rfl, ← h2, ← h1] at h3
    exact h.first a (by omega) h3.symm
theorem mw_pow : ∀ k j, j < 2 ^ k → mw (2 ^ k - 1 + j) = (2 ^ k - 1, 2 ^ k) := by
  have step : ∀ k, mw (2 ^ k - 1) = (2 ^ k - 1, 2 ^ k) → ∀ j, j < 2 ^ k → mw (2 ^ k - 1 + j) = (2 ^ k - 1, 2 ^ k) := by
    intro k hk j
    induction j with
    | zero => intro _; exact hk
    | succ j ih =>
      intro hj
      have := ih (by omega)
      show mw (2 ^ k - 1 + j + 1) = _
      unfold mw
      rw [this, if_neg (by simp only; omega)]
  intro k
  induction k with
  | zero => intro j hj; exact step 0 rfl j hj
  | succ k ih =>
    have hp : 0 < 2 ^ k := Nat.pow_pos (by decide)
    refine step (k + 1) ?_
    have h1 := ih (2 ^ k - 1) (by omega)
    have e2 : 2 ^ (k + 1) = 2 * 2 ^ k := by rw [Nat.pow_succ]; omega
    rw [e2]
    generalize 2 ^ k = q at h1 hp ⊢
    rw [show 2 * q - 1 = (q - 1 + (q - 1)) + 1 by omega]
    unfold mw
    rw [h1, if_pos (by simp only; omega)]
/-- What the search over 262144 ticks does not find does not come back in 65536. -/
theorem stop_apart {p : Prm} {s : Ste} {x : Int} {N : Nat} (hN : 262144 < N + 1) (hN1 : ∀ i, i < N → ¬ StopAt p s x i) {a b : Nat} (hab : a < b) (hb : b ≤ 65536) : sq p s x a ≠ sq p s x b := by
  intro he
  obtain ⟨d, rfl⟩ : ∃ d, b = a + d := ⟨b - a, by omega⟩
  have h1 := sq_shift he (65535 - a)
  rw [show a + (65535 - a) = 65535 by omega, show a + d + (65535 - a) = 65535 + d by omega] at h1
  have hm : mw (65535 + (d - 1)) = (65535, 65536) := mw_pow 16 (d - 1) (by omega)
  refine hN1 (65535 + (d - 1)) (by omega) (.inl ?_)
  rw [hm, show 65535 + (d - 1) + 1 = 65535 + d by omega]
  exact h1.symm
end Go.Proofs.Ytoipnojibkjjnaa
