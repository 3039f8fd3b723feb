/-
  Plain laws of neurons: silence can be divided; the first spike in it; without a bias, below the threshold, there is none.
  For every neuron and state without error.
-/
import Derived.Test.YtoipnojibkjjnaaPlainC
namespace Go.Proofs.Ytoipnojibkjjnaa
open Go.Sx

theorem outs_from (p : Prm) : ∀ (xs : List Int) (s : Ste) (i j : Nat), outs p s (i + j) xs = (outs p s j xs).map fun t => (i : Int) + t
  | [], _, _, _ => rfl
  | x :: xs, s, i, j => by
    have ih := outs_from p xs (stepS p s x) i (j + 1)
    simp only [outs]
    rw [show i + j + 1 = i + (j + 1) by omega, ih]
    split
    · simp only [List.map_cons, List.cons.injEq, and_true]; omega
    · rfl
theorem rep_add (n m : Nat) : List.replicate (n + m) (0 : Int) = List.replicate n 0 ++ List.replicate m 0 := by rw [List.replicate_append_replicate]
theorem steps_rep (p : Prm) (s : Ste) : ∀ i, steps p s (List.replicate i 0) = nth p s i
  | 0 => rfl
  | i + 1 => by rw [List.replicate_succ', steps_snoc, steps_rep p s i, nth]
/-- Which ticks are in the list of a silence. -/
theorem outs_rep_mem (p : Prm) (s : Ste) : ∀ (n : Nat) (t : Int), t ∈ outs p s 0 (List.replicate n 0) ↔ ∃ i : Nat, i < n ∧ t = i ∧ stepB p (nth p s i) 0 = true
  | 0, t => by simp [outs]
  | n + 1, t => by
    rw [List.replicate_succ', outs_snoc, List.mem_append, outs_rep_mem p s n t, steps_rep, List.length_replicate, Nat.zero_add]
    constructor
    · rintro (⟨i, h1, h2, h3⟩ | h)
      · exact ⟨i, by omega, h2, h3⟩
      · split at h
        · rename_i hf
          simp at h
          exact ⟨n, by omega, h, hf⟩
        · cases h
    · rintro ⟨i, h1, h2, h3⟩
      rcases Nat.lt_or_ge i n with hlt | hge
      · exact .inl ⟨i, hlt, h2, h3⟩
      · obtain rfl : i = n := by omega
        right
        rw [if_pos h3]
        simp [h2]
theorem outs_sorted (p : Prm) : ∀ (xs : List Int) (s : Ste) (i : Nat), (outs p s i xs).Pairwise (· < ·)
  | [], _, _ => .nil
  | x :: xs, s, i => by
    simp only [outs]
    split
    · refine .cons (fun t ht => ?_) (outs_sorted p xs _ _)
      have := outs_ge p xs _ _ t ht
      omega
    · exact outs_sorted p xs _ _

theorem nth_fixed {p : Prm} {s : Ste} {N : Nat} (h : nth p s (N + 1) = nth p s N) : ∀ i, N ≤ i → nth p s i = nth p s N := by
  intro i
  induction i with
  | zero =>
    intro hi
    have e : N = 0 := by omega
    rw [e]
  | succ i ih =>
    intro hi
    rcases Nat.lt_or_ge N (i + 1) with hlt | hge
    · rw [nth, ih (by omega)]; exact h
    · have e : N = i + 1 := by omega
      rw [e]
/-- 'Next' and the list of a silence. -/
theorem next_first {p : Prm} {s : Ste} {N : Nat} (h : NextIs p s N) (n : Nat) : (∀ t, (outs p s 0 (List.replicate n 0))[0]? = some t → nextV p s N = t) ∧
    ((outs p s 0 (List.replicate n 0)).length = 0 → ¬ (0 ≤ nextV p s N ∧ nextV p s N < n)) ∧ -1 ≤ nextV p s N := by
  refine ⟨fun t ht => ?_, fun hl => ?_, ?_⟩
  · obtain ⟨k, hk, hkt, hf⟩ := (outs_rep_mem p s n t).1 (List.mem_of_getElem? ht)
    have hkN : N ≤ k := by
      rcases Nat.lt_or_ge k N with hlt | hge
      · rw [(h.1 k hlt).1] at hf; cases hf
      · exact hge
    cases hN : stepB p (nth p s N) 0
    · exfalso
      rcases h.2 with h2 | h2
      · rw [hN] at h2; cases h2
      · rw [nth_fixed h2 k hkN, hN] at hf; cases hf
    · rw [nextV, hN, if_pos rfl]
      have hm : (N : Int) ∈ outs p s 0 (List.replicate n 0) := (outs_rep_mem p s n N).2 ⟨N, by omega, rfl, hN⟩
      have hs := outs_sorted p (List.replicate n 0) s 0
      cases hL : outs p s 0 (List.replicate n 0) with
      | nil => rw [hL] at hm; cases hm
      | cons a l =>
        rw [hL] at ht hm hs
        simp at ht
        subst ht
        rcases List.mem_cons.1 hm with e | e
        · exact e
        · have := (List.pairwise_cons.1 hs).1 _ e
          omega
  · intro ⟨h0, h1⟩
    unfold nextV at h0 h1
    split at h0
    · rename_i hN
      rw [if_pos hN] at h1
      have hm : (N : Int) ∈ outs p s 0 (List.replicate n 0) := (outs_rep_mem p s n N).2 ⟨N, by omega, rfl, hN⟩
      rw [List.eq_nil_of_length_eq_zero hl] at hm
      cases hm
    · omega
  · unfold nextV
    split <;> omega

/-- Without a bias, below the threshold. -/
theorem lk_toward {p : Prm} (h : Good p) (v : Int) : (0 ≤ v → 0 ≤ lkI p.lk p.leak v ∧ lkI p.lk p.leak v ≤ v) ∧ (v ≤ 0 → v ≤ lkI p.lk p.leak v ∧ lkI p.lk p.leak v ≤ 0) := by
  unfold lkI
  rcases h.lk with ⟨e, hl⟩ | ⟨e, hl⟩ | ⟨e, hl⟩
  · rw [e]; simp
  · rw [e]
    simp only [show ¬ (1 : Int) = 0 by decide, if_false, if_true]
    constructor <;> intro hv <;> split <;> omega
  · rw [e]
    simp only [show ¬ (2 : Int) = 0 by decide, show ¬ (2 : Int) = 1 by decide, if_false]
    have h3 := tdiv_cases (v * p.leak)
    constructor
    · intro hv
      have h1 : 0 ≤ v * p.leak := Int.mul_nonneg hv (by omega)
      have h2 : v * p.leak ≤ v * 256 := Int.mul_le_mul_of_nonneg_left hl.2 hv
      generalize v * p.leak = m at h1 h2 h3 ⊢
      omega
    · intro hv
      have h1 : v * p.leak ≤ 0 := Int.mul_nonpos_of_nonpos_of_nonneg hv (by omega)
      have h2 : v * 256 ≤ v * p.leak := by
        have := Int.mul_le_mul_of_nonneg_left hl.2 (show 0 ≤ -v by omega)
        rw [Int.neg_mul, Int.neg_mul] at this; omega
      generalize v * p.leak = m at h1 h2 h3 ⊢
      omega
theorem quiet {p : Prm} {s : Ste} (h : vld p s = 0) (hb : p.bias = 0) (hv : s.v < p.thr) : ∀ i, stepB p (nth p s i) 0 = false ∧ (nth p s i).v < p.thr ∧ (nth p s i).v ≤ max s.v (-s.v) ∧ -(nth p s i).v ≤ max s.v (-s.v) := by
  have step : ∀ {u : Ste}, vld p u = 0 → u.v < p.thr → u.v ≤ max s.v (-s.v) → -u.v ≤ max s.v (-s.v) → stepB p u 0 = false ∧ (stepS p u 0).v < p.thr ∧ (stepS p u 0).v ≤ max s.v (-s.v) ∧ -(stepS p u 0).v ≤ max s.v (-s.v) := by
    intro u hu h1 h2 h3
    obtain ⟨hg, hvv, hr⟩ := vld_good.1 hu
    have hf := hg.floor
    have ht := hg.thr
    have hl := lk_toward hg u.v
    have e := stepV_st hg (s := u) ⟨by omega, hvv.2⟩ 0
    have hst : stI p u.v 0 = lkI p.lk p.leak u.v := by
      unfold stI
      rw [hb]
      rcases Int.le_total 0 u.v with h0 | h0
      · have := hl.1 h0; omega
      · have := hl.2 h0; omega
    unfold stepB stepS
    rw [e, hst]
    have hlt : lkI p.lk p.leak u.v < p.thr := by
      rcases Int.le_total 0 u.v with h0 | h0
      · have := hl.1 h0; omega
      · have := hl.2 h0; omega
    split
    · exact ⟨rfl, h1, h2, h3⟩
    · refine ⟨rfl, hlt, ?_, ?_⟩
      · show lkI p.lk p.leak u.v ≤ _
        rcases Int.le_total 0 u.v with h0 | h0
        · have := hl.1 h0; omega
        · have := hl.2 h0; omega
      · show -lkI p.lk p.leak u.v ≤ _
        rcases Int.le_total 0 u.v with h0 | h0
        · have := hl.1 h0; omega
        · have := hl.2 h0; omega
  have key : ∀ i, vld p (nth p s i) = 0 ∧ (nth p s i).v < p.thr ∧ (nth p s i).v ≤ max s.v (-s.v) ∧ -(nth p s i).v ≤ max s.v (-s.v) := by
    intro i
    induction i with
    | zero => exact ⟨h, hv, by show s.v ≤ _; omega, by show -s.v ≤ _; omega⟩
    | succ i ih =>
      obtain ⟨q1, q2, q3, q4⟩ := ih
      obtain ⟨_, r2, r3, r4⟩ := step q1 q2 q3 q4
      exact ⟨vld_step q1 0, r2, r3, r4⟩
  intro i
  obtain ⟨q1, q2, q3, q4⟩ := key i
  exact ⟨(step q1 q2 q3 q4).1, q2, q3, q4⟩
end Go.Proofs.Ytoipnojibkjjnaa
