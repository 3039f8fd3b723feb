/-
  Plain laws of neurons: what a neuron that is checked is; that states remain valid; the code's arithmetic without its wraps.
  For every neuron without error.
-/
import Derived.Test.YtoipnojibkjjnaaNeuI
namespace Go.Proofs.Ytoipnojibkjjnaa
open Go.Sx

/-- A neuron without error. -/
structure Good (p : Prm) : Prop where
  lk : (p.lk = 0 ∧ p.leak = 0) ∨ (p.lk = 1 ∧ 1 ≤ p.leak ∧ p.leak ≤ 1048576) ∨ (p.lk = 2 ∧ 1 ≤ p.leak ∧ p.leak ≤ 256)
  bias : -1048576 ≤ p.bias ∧ p.bias ≤ 1048576
  floor : -1048576 ≤ p.floor ∧ p.floor ≤ 0
  thr : 1 ≤ p.thr ∧ p.thr ≤ 1048576
  rest : 0 ≤ p.rest ∧ p.rest ≤ 64
  reset : (p.rk = 0 ∧ p.floor ≤ p.reset ∧ p.reset ≤ p.thr - 1) ∨ (p.rk = 1 ∧ p.reset = 0)
theorem W_id {a : Int} (h : -9223372036854775808 ≤ a) (h2 : a ≤ 9223372036854775807) : W a = a := by rw [W_eq]; omega
theorem chk_good {p : Prm} : chk p = 0 ↔ Good p := by
  obtain ⟨lk, leak, bias, thr, rk, reset, floor, rest⟩ := p
  constructor
  · intro h
    have h1 := chk_known h
    have h2 := (chk_parts h).1
    simp only at h1 h2
    have hthr : wi thr 1 1048576 = true := by
      cases ht : wi thr 1 1048576
      · exfalso
        unfold chk at h
        simp only [ht] at h
        rcases h1 with rfl | rfl | rfl <;> rcases h2 with rfl | rfl <;> simp [wi] at h
      · rfl
    have hthr' : 1 ≤ thr ∧ thr ≤ 1048576 := by simpa [wi] using hthr
    have hw : W (thr - 1) = thr - 1 := W_id (by omega) (by omega)
    unfold chk at h
    simp only [hthr, hw] at h
    rcases h1 with rfl | rfl | rfl <;> rcases h2 with rfl | rfl <;> simp [wi, most] at h <;>
      exact ⟨by simp; omega, by simp only; omega, by simp only; omega, hthr', by simp only; omega, by simp; omega⟩
  · rintro ⟨h1, h2, h3, h4, h5, h6⟩
    simp only at h1 h2 h3 h4 h5 h6
    have hw : W (thr - 1) = thr - 1 := W_id (by omega) (by omega)
    unfold chk
    rcases h1 with ⟨rfl, h1⟩ | ⟨rfl, h1⟩ | ⟨rfl, h1⟩ <;> rcases h6 with ⟨rfl, h6⟩ | ⟨rfl, h6⟩ <;> simp [wi, most, hw] <;> omega
theorem vld_good {p : Prm} {s : Ste} : vld p s = 0 ↔ Good p ∧ (p.floor ≤ s.v ∧ s.v ≤ 1048576) ∧ 0 ≤ s.rest ∧ s.rest ≤ p.rest := by
  constructor
  · intro h
    obtain ⟨h1, h2, h3⟩ := vld_zero h
    exact ⟨chk_good.1 h1, by simpa [wi] using h2, by simpa [wi] using h3⟩
  · rintro ⟨h1, h2, h3⟩
    have h1 := chk_good.2 h1
    simp [vld, h1, wi, h2, h3]

/-- What the leak makes of a potential. -/
def lkI (k l v : Int) : Int := if k = 0 then v else if k = 1 then (if v < 0 then min 0 (v + l) else max 0 (v - l)) else v - (v * l).tdiv 256
theorem mul_bound {v l : Int} (hv : -1048576 ≤ v ∧ v ≤ 1048576) (hl : 0 ≤ l ∧ l ≤ 1048576) : -1099511627776 ≤ v * l ∧ v * l ≤ 1099511627776 := by
  constructor
  · have h1 : -1048576 * l ≤ v * l := Int.mul_le_mul_of_nonneg_right hv.1 hl.1
    omega
  · have h1 : v * l ≤ 1048576 * l := Int.mul_le_mul_of_nonneg_right hv.2 hl.1
    omega
theorem tdiv_bound {a b : Int} : -(a.natAbs : Int) ≤ a.tdiv b ∧ a.tdiv b ≤ (a.natAbs : Int) := by
  have h1 : (a.tdiv b).natAbs ≤ a.natAbs := by
    rw [Int.natAbs_tdiv]; exact Nat.div_le_self _ _
  omega
theorem leakW_lk {p : Prm} (h : Good p) {v : Int} (hv : -1048576 ≤ v ∧ v ≤ 1048576) : leakW p.lk p.leak v = lkI p.lk p.leak v := by
  unfold leakW lkI
  rcases h.lk with ⟨e, hl⟩ | ⟨e, hl⟩ | ⟨e, hl⟩
  · rw [e]; rfl
  · have e1 : W (v + p.leak) = v + p.leak := W_id (by omega) (by omega)
    have e2 : W (v - p.leak) = v - p.leak := W_id (by omega) (by omega)
    rw [e, e1, e2]
    rfl
  · have hm := mul_bound hv ⟨by omega, by omega⟩ (l := p.leak)
    have ht := tdiv_bound (a := v * p.leak) (b := 256)
    have e1 : W (v * p.leak) = v * p.leak := W_id (by omega) (by omega)
    have e2 : W ((v * p.leak).tdiv 256) = (v * p.leak).tdiv 256 := W_id (by omega) (by omega)
    have e3 : W (v - (v * p.leak).tdiv 256) = v - (v * p.leak).tdiv 256 := W_id (by omega) (by omega)
    have e4 : W (v + p.leak) = v + p.leak := W_id (by omega) (by omega)
    have e5 : W (v - p.leak) = v - p.leak := W_id (by omega) (by omega)
    rw [e, e1, e2, e3, e4, e5]
theorem lk_bound {p : Prm} (h : Good p) {v : Int} (hv : -1048576 ≤ v ∧ v ≤ 1048576) : -1048576 ≤ lkI p.lk p.leak v ∧ lkI p.lk p.leak v ≤ 1048576 := by
  unfold lkI
  rcases h.lk with ⟨e, hl⟩ | ⟨e, hl⟩ | ⟨e, hl⟩
  · rw [e]; simpa using hv
  · rw [e, if_neg (by decide), if_pos rfl]
    split <;> omega
  · rw [e, if_neg (by decide), if_neg (by decide)]
    have hm : 0 ≤ v → 0 ≤ v * p.leak ∧ v * p.leak ≤ v * 256 := fun h0 => ⟨Int.mul_nonneg h0 (by omega), Int.mul_le_mul_of_nonneg_left hl.2 h0⟩
    have hm2 : v ≤ 0 → v * 256 ≤ v * p.leak ∧ v * p.leak ≤ 0 := fun h0 => ⟨by
      have := Int.mul_le_mul_of_nonneg_left hl.2 (show 0 ≤ -v by omega)
      rw [Int.neg_mul, Int.neg_mul] at this; omega, Int.mul_nonpos_of_nonpos_of_nonneg h0 (by omega)⟩
    generalize v * p.leak = m at hm hm2
    rcases Int.le_total 0 v with h0 | h0
    · obtain ⟨h1, h2⟩ := hm h0
      have : m.tdiv 256 = m / 256 := Int.tdiv_eq_ediv_of_nonneg h1
      rw [this]; omega
    · obtain ⟨h1, h2⟩ := hm2 h0
      have : m.tdiv 256 = -((-m) / 256) := by
        have := Int.neg_tdiv (a := -m) (b := 256)
        rw [Int.neg_neg, Int.tdiv_eq_ediv_of_nonneg (a := -m) (b := 256) (by omega)] at this
        exact this
      rw [this]; omega
/-- The potential behind a tick, ere the threshold is looked at. -/
def stI (p : Prm) (v x : Int) : Int := max p.floor (min 1048576 (lkI p.lk p.leak v + p.bias + max (-4194304) (min 4194304 x)))
theorem stepV_st {p : Prm} (h : Good p) {s : Ste} (hv : -1048576 ≤ s.v ∧ s.v ≤ 1048576) (x : Int) : stepV p s x = stI p s.v x := by
  unfold stepV stI
  have hb := lk_bound h hv
  have h2 := h.bias
  rw [leakW_lk h hv, W_id (a := lkI p.lk p.leak s.v + p.bias) (by omega) (by omega), W_id (by omega) (by omega)]
theorem st_bound {p : Prm} (h : Good p) (v x : Int) : p.floor ≤ stI p v x ∧ stI p v x ≤ 1048576 := by
  unfold stI
  have := h.floor
  omega
theorem vld_step {p : Prm} {s : Ste} (h : vld p s = 0) (x : Int) : vld p (stepS p s x) = 0 := by
  obtain ⟨hg, hv, hr⟩ := vld_good.1 h
  have h1 := hg.floor
  have h2 := hg.rest
  have h3 := hg.thr
  have h4 := hg.reset
  have hs := st_bound hg s.v x
  refine vld_good.2 ⟨hg, ?_⟩
  unfold stepS
  rw [stepV_st hg ⟨by omega, hv.2⟩]
  split
  · rw [W_id (by omega) (by omega)]
    exact ⟨hv, by simp only; omega⟩
  · split
    · exact ⟨hs, hr⟩
    · split
      · rw [W_id (by omega) (by omega)]
        exact ⟨by simp only; omega, by simp only; omega⟩
      · exact ⟨by simp only; omega, by simp only; omega⟩
theorem vld_steps {p : Prm} : ∀ {xs : List Int} {s : Ste}, vld p s = 0 → vld p (steps p s xs) = 0
  | [], _, h => h
  | x :: xs, s, h => vld_steps (xs := xs) (s := stepS p s x) (vld_step h x)
end Go.Proofs.Ytoipnojibkjjnaa
