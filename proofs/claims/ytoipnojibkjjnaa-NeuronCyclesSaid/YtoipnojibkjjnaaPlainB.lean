/-
  Plain laws of neurons: the leak is monotone; silence comes to a spike or to a state that remains.
  For every neuron without error.
-/
import Derived.Test.YtoipnojibkjjnaaPlain
namespace Go.Proofs.Ytoipnojibkjjnaa
open Go.Sx

theorem tdiv_cases (m : Int) : (0 ≤ m ∧ m.tdiv 256 = m / 256) ∨ (m < 0 ∧ m.tdiv 256 = -((-m) / 256)) := by
  rcases Int.lt_or_le m 0 with h | h
  · right
    refine ⟨h, ?_⟩
    have := Int.neg_tdiv (a := -m) (b := 256)
    rw [Int.neg_neg, Int.tdiv_eq_ediv_of_nonneg (a := -m) (b := 256) (by omega)] at this
    exact this
  · exact .inl ⟨h, Int.tdiv_eq_ediv_of_nonneg h⟩
theorem lk_mono {p : Prm} (h : Good p) {a b : Int} (hab : a ≤ b) : lkI p.lk p.leak a ≤ lkI p.lk p.leak b := by
  unfold lkI
  rcases h.lk with ⟨e, hl⟩ | ⟨e, hl⟩ | ⟨e, hl⟩
  · rw [e]; simpa using hab
  · rw [e]
    simp only [show ¬ (1 : Int) = 0 by decide, if_false, if_true]
    split <;> split <;> omega
  · rw [e]
    simp only [show ¬ (2 : Int) = 0 by decide, show ¬ (2 : Int) = 1 by decide, if_false]
    have h1 : 0 ≤ (b - a) * p.leak := Int.mul_nonneg (by omega) (by omega)
    have h2 : (b - a) * p.leak ≤ (b - a) * 256 := Int.mul_le_mul_of_nonneg_left hl.2 (by omega)
    rw [Int.sub_mul] at h1 h2
    have h3 := tdiv_cases (a * p.leak)
    have h4 := tdiv_cases (b * p.leak)
    generalize a * p.leak = x at h1 h2 h3 ⊢
    generalize b * p.leak = y at h1 h2 h4 ⊢
    omega
theorem st_mono {p : Prm} (h : Good p) {a b x y : Int} (hab : a ≤ b) (hxy : x ≤ y) : stI p a x ≤ stI p b y := by
  have := lk_mono h hab
  unfold stI
  omega

theorem nth_shift (p : Prm) (s : Ste) : ∀ i, nth p s (i + 1) = nth p (stepS p s 0) i
  | 0 => rfl
  | i + 1 => by rw [nth, nth_shift p s i, nth]
theorem NextIs.shift {p : Prm} {s : Ste} {N : Nat} (h1 : stepB p s 0 = false) (h2 : stepS p s 0 ≠ s) (h : NextIs p (stepS p s 0) N) : NextIs p s (N + 1) := by
  refine ⟨fun i hi => ?_, ?_⟩
  · cases i with
    | zero => exact ⟨h1, h2⟩
    | succ i =>
      rw [nth_shift, nth_shift]
      exact h.1 i (by omega)
  · rw [nth_shift, nth_shift]
    exact h.2

theorem step_rest0 {p : Prm} (h : Good p) {v : Int} (hv : p.floor ≤ v ∧ v ≤ 1048576) (x : Int) (hb : stepB p ⟨v, 0⟩ x = false) : stepS p ⟨v, 0⟩ x = ⟨stI p v x, 0⟩ := by
  have hf := h.floor
  have e := stepV_st h (s := ⟨v, 0⟩) ⟨by simp only; omega, hv.2⟩ x
  unfold stepB at hb
  unfold stepS
  rw [e] at hb ⊢
  simp only [Int.lt_irrefl, if_false] at hb ⊢
  split at hb
  · rename_i hlt; rw [if_pos hlt]
  · cases hb

theorem next_up {p : Prm} (h : Good p) : ∀ (k : Nat) (v : Int), p.floor ≤ v → v ≤ 1048576 → v ≤ stI p v 0 → 1048576 - v ≤ k → ∃ N, N ≤ k ∧ NextIs p ⟨v, 0⟩ N := by
  intro k
  induction k with
  | zero =>
    intro v h1 h2 h3 h4
    have hb := st_bound h v 0
    refine ⟨0, Nat.le_refl _, fun i hi => by omega, ?_⟩
    cases hf : stepB p ⟨v, 0⟩ 0
    · right
      show stepS p ⟨v, 0⟩ 0 = ⟨v, 0⟩
      rw [step_rest0 h ⟨h1, h2⟩ 0 hf, show stI p v 0 = v by omega]
    · exact .inl hf
  | succ k ih =>
    intro v h1 h2 h3 h4
    have hb := st_bound h v 0
    cases hf : stepB p ⟨v, 0⟩ 0
    · have hs := step_rest0 h ⟨h1, h2⟩ 0 hf
      by_cases he : stI p v 0 = v
      · refine ⟨0, Nat.zero_le _, fun i hi => by omega, .inr ?_⟩
        show stepS p ⟨v, 0⟩ 0 = ⟨v, 0⟩
        rw [hs, he]
      · obtain ⟨N, hN, hn⟩ := ih (stI p v 0) hb.1 hb.2 (st_mono h h3 (Int.le_refl 0)) (by omega)
        rw [← hs] at hn
        exact ⟨N + 1, by omega, hn.shift hf (fun hc => he (by rw [hs] at hc; exact congrArg Ste.v hc))⟩
    · exact ⟨0, Nat.zero_le _, fun i hi => by omega, .inl hf⟩
theorem next_down {p : Prm} (h : Good p) : ∀ (k : Nat) (v : Int), p.floor ≤ v → v ≤ 1048576 → stI p v 0 ≤ v → v - p.floor ≤ k → ∃ N, N ≤ k ∧ NextIs p ⟨v, 0⟩ N := by
  intro k
  induction k with
  | zero =>
    intro v h1 h2 h3 h4
    have hb := st_bound h v 0
    refine ⟨0, Nat.le_refl _, fun i hi => by omega, ?_⟩
    cases hf : stepB p ⟨v, 0⟩ 0
    · right
      show stepS p ⟨v, 0⟩ 0 = ⟨v, 0⟩
      rw [step_rest0 h ⟨h1, h2⟩ 0 hf, show stI p v 0 = v by omega]
    · exact .inl hf
  | succ k ih =>
    intro v h1 h2 h3 h4
    have hb := st_bound h v 0
    cases hf : stepB p ⟨v, 0⟩ 0
    · have hs := step_rest0 h ⟨h1, h2⟩ 0 hf
      by_cases he : stI p v 0 = v
      · refine ⟨0, Nat.zero_le _, fun i hi => by omega, .inr ?_⟩
        show stepS p ⟨v, 0⟩ 0 = ⟨v, 0⟩
        rw [hs, he]
      · obtain ⟨N, hN, hn⟩ := ih (stI p v 0) hb.1 hb.2 (st_mono h h3 (Int.le_refl 0)) (by omega)
        rw [← hs] at hn
        exact ⟨N + 1, by omega, hn.shift hf (fun hc => he (by rw [hs] at hc; exact congrArg Ste.v hc))⟩
    · exact ⟨0, Nat.zero_le _, fun i hi => by omega, .inl hf⟩
theorem step_resting {p : Prm} {v : Int} {r : Nat} (hr : r < 1000) (x : Int) : stepB p ⟨v, (r : Int) + 1⟩ x = false ∧ stepS p ⟨v, (r : Int) + 1⟩ x = ⟨v, (r : Int)⟩ := by
  unfold stepB stepS
  rw [if_pos (by simp only; omega), if_pos (by simp only; omega), W_id (by simp only; omega) (by simp only; omega)]
  exact ⟨rfl, by simp only [Ste.mk.injEq, true_and]; omega⟩
theorem next_rest {p : Prm} (h : Good p) (v : Int) (h1 : p.floor ≤ v) (h2 : v ≤ 1048576) : ∀ r : Nat, r ≤ 64 → ∃ N, N ≤ r + 2097152 ∧ NextIs p ⟨v, (r : Int)⟩ N
  | 0, _ => by
    have hf := h.floor
    rcases Int.le_total v (stI p v 0) with hd | hd
    · obtain ⟨N, hN, hn⟩ := next_up h 2097152 v h1 h2 hd (by omega)
      exact ⟨N, by omega, hn⟩
    · obtain ⟨N, hN, hn⟩ := next_down h 2097152 v h1 h2 hd (by omega)
      exact ⟨N, by omega, hn⟩
  | r + 1, hr => by
    obtain ⟨N, hN, hn⟩ := next_rest h v h1 h2 r (by omega)
    obtain ⟨e1, e2⟩ := step_resting (p := p) (v := v) (r := r) (by omega) 0
    rw [← e2] at hn
    refine ⟨N + 1, by omega, NextIs.shift e1 (fun hc => ?_) hn⟩
    have hc : stepS p ⟨v, (r : Int) + 1⟩ 0 = ⟨v, (r : Int) + 1⟩ := hc
    rw [e2] at hc
    have := congrArg Ste.rest hc
    simp only at this
    omega
theorem next_exists {p : Prm} {s : Ste} (h : vld p s = 0) : ∃ N, N < 4611686018427387904 ∧ NextIs p s N := by
  obtain ⟨hg, hv, hr⟩ := vld_good.1 h
  have hrest := hg.rest
  obtain ⟨N, hN, hn⟩ := next_rest hg s.v hv.1 hv.2 s.rest.toNat (by omega)
  refine ⟨N, by omega, ?_⟩
  have e : (⟨s.v, (s.rest.toNat : Int)⟩ : Ste) = s := by
    obtain ⟨v, r⟩ := s
    simp only [Ste.mk.injEq, true_and]
    simp only at hr
    omega
  rw [e] at hn
  exact hn
end Go.Proofs.Ytoipnojibkjjnaa
