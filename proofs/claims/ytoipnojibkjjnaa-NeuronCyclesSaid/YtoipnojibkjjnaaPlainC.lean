/-
  Plain laws of neurons: the list of the ticks with spikes: its elements, and how far apart they are.
  For every neuron and state without error.
-/
import Derived.Test.YtoipnojibkjjnaaPlainB
namespace Go.Proofs.Ytoipnojibkjjnaa
open Go.Sx

theorem outs_append (p : Prm) : ∀ (xs ys : List Int) (s : Ste) (i : Nat), outs p s i (xs ++ ys) = outs p s i xs ++ outs p (steps p s xs) (i + xs.length) ys
  | [], ys, s, i => rfl
  | x :: xs, ys, s, i => by
    simp only [List.cons_append, outs, steps, outs_append p xs ys, List.length_cons]
    rw [show i + 1 + xs.length = i + (xs.length + 1) by omega]
    split
    · rfl
    · rfl
theorem steps_append (p : Prm) : ∀ (xs ys : List Int) (s : Ste), steps p s (xs ++ ys) = steps p (steps p s xs) ys
  | [], _, _ => rfl
  | x :: xs, ys, s => steps_append p xs ys (stepS p s x)
theorem outs_ge (p : Prm) : ∀ (xs : List Int) (s : Ste) (i : Nat), ∀ t ∈ outs p s i xs, (i : Int) ≤ t ∧ t < (i + xs.length : Nat)
  | [], _, _, t, h => by cases h
  | x :: xs, s, i, t, h => by
    simp only [outs] at h
    have ih := outs_ge p xs (stepS p s x) (i + 1) t
    simp only [List.length_cons]
    split at h
    · rcases List.mem_cons.1 h with rfl | h
      · omega
      · have := ih h; omega
    · have := ih h; omega

/-- The list at the place behind the ticks ahead of number i. -/
theorem outs_at (p : Prm) (s : Ste) (xs : List Int) {i : Nat} (hi : i < xs.length) :
    (stepB p (steps p s (xs.take i)) xs[i] = true → (outs p s 0 xs)[(outs p s 0 (xs.take i)).length]? = some (i : Int)) ∧
    (stepB p (steps p s (xs.take i)) xs[i] = false → (outs p s 0 xs)[(outs p s 0 (xs.take i)).length]? ≠ some (i : Int)) := by
  have e : outs p s 0 xs = outs p s 0 (xs.take i) ++ outs p (steps p s (xs.take i)) i (xs[i] :: xs.drop (i + 1)) := by
    have h1 : xs = xs.take i ++ xs[i] :: xs.drop (i + 1) := by
      rw [← List.drop_eq_getElem_cons hi, List.take_append_drop]
    have h2 : (xs.take i).length = i := by simp; omega
    have h3 := outs_append p (xs.take i) (xs[i] :: xs.drop (i + 1)) s 0
    rw [← h1, h2, Nat.zero_add] at h3
    exact h3
  rw [e, List.getElem?_append_right (Nat.le_refl _), Nat.sub_self]
  constructor
  · intro h
    simp only [outs, h, if_true]
    rfl
  · intro h hc
    simp only [outs, h] at hc
    have hm := List.mem_of_getElem? hc
    have := outs_ge p _ _ _ _ hm
    omega

theorem outs_prefix (p : Prm) (s : Ste) (xs : List Int) (i j : Nat) (hj : j < (outs p s 0 (xs.take i)).length) : (outs p s 0 xs)[j]? = (outs p s 0 (xs.take i))[j]? := by
  have h := outs_append p (xs.take i) (xs.drop i) s 0
  rw [List.take_append_drop] at h
  rw [h, List.getElem?_append_left hj]

/-- How long a neuron has rested since its last spike. -/
theorem rest_since {p : Prm} {s : Ste} (h : vld p s = 0) (xs : List Int) : ∀ i, i ≤ xs.length → ∀ t0, (outs p s 0 (xs.take i)).getLast? = some t0 → p.rest - ((i : Int) - t0 - 1) ≤ (steps p s (xs.take i)).rest
  | 0, _, t0, ht => by simp [outs] at ht
  | i + 1, hi, t0, ht => by
    have hx : xs[i]? = some xs[i] := List.getElem?_eq_getElem (by omega)
    rw [take_snoc hx] at ht ⊢
    rw [steps_snoc]
    rw [outs_snoc] at ht
    have hli : (xs.take i).length = i := by simp; omega
    rw [hli, Nat.zero_add] at ht
    have hv := vld_steps (xs := xs.take i) h
    obtain ⟨hg, hvv, hvr⟩ := vld_good.1 hv
    have hr := hg.rest
    have ih := rest_since h xs i (by omega)
    generalize steps p s (xs.take i) = st at *
    cases hf : stepB p st xs[i]
    · rw [hf, if_neg (by decide), List.append_nil] at ht
      have ih := ih t0 ht
      unfold stepS
      split
      · rw [W_id (by omega) (by omega)]
        simp only
        omega
      · unfold stepB at hf
        split at hf
        · omega
        · split at hf
          · rename_i hlt
            rw [if_pos hlt]
            show _ ≤ st.rest
            omega
          · cases hf
    · rw [hf, if_pos rfl, List.getLast?_append] at ht
      simp at ht
      subst ht
      unfold stepS
      unfold stepB at hf
      split at hf
      · cases hf
      · rename_i h0
        rw [if_neg h0]
        split at hf
        · cases hf
        · rename_i h1
          rw [if_neg h1]
          split
          · simp only; omega
          · simp only; omega
/-- Two spikes, one behind the other. -/
theorem outs_apart {p : Prm} {s : Ste} (h : vld p s = 0) (xs : List Int) {i : Nat} (hi : i < xs.length) (hf : stepB p (steps p s (xs.take i)) xs[i] = true) {K : Nat} (hK : (outs p s 0 (xs.take i)).length = K + 1) {t0 : Int} (ht : (outs p s 0 xs)[K]? = some t0) :
    p.rest < (i : Int) - t0 ∧ 0 ≤ t0 ∧ t0 < i := by
  rw [outs_prefix p s xs i K (by omega)] at ht
  have hl : (outs p s 0 (xs.take i)).getLast? = some t0 := by rw [List.getLast?_eq_getElem?, hK]; exact ht
  have h1 := rest_since h xs i (by omega) t0 hl
  have h2 : ¬ 0 < (steps p s (xs.take i)).rest := by
    intro hc
    unfold stepB at hf
    rw [if_pos hc] at hf
    cases hf
  have h3 := outs_ge p (xs.take i) s 0 t0 (List.mem_of_getElem? ht)
  have h4 : (xs.take i).length = i := by simp; omega
  rw [h4] at h3
  omega
theorem stepB_rest {p : Prm} {s : Ste} {x : Int} (h : stepB p s x = true) : ¬ 0 < s.rest := by
  intro hc
  unfold stepB at h
  rw [if_pos hc] at h
  cases h
end Go.Proofs.Ytoipnojibkjjnaa
