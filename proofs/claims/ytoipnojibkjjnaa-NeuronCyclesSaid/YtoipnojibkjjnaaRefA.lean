/-
  Walks of the functions of the reference of package neuron (part A): 'within', 'Check', 'Valid', 'leak': what they compute, and that it is what the package's own compute.
  For every argument; the world only gets new blocks.
-/
import Derived.Test.YtoipnojibkjjnaaNeuD
namespace Go.Proofs.Ytoipnojibkjjnaa
open Go.Sx
set_option maxRecDepth 100000

theorem rwithin_run (n lo hi : Int) (w : World) : Calls Try.prog 46 #[.int .i64 n, .int .i64 lo, .int .i64 hi] w fun e w' => e = .returned (.bool (wi n lo hi)) ∧ Ext w w' := by
  refine Run.start0 (tab := tab) (pf := []) (cuts := []) mixed tab_ok trivial Try.func46 rfl [.v (.int .i64 n), .v (.int .i64 lo), .v (.int .i64 hi)] 100 ⟨trivial, trivial, trivial, trivial⟩ rfl ?_
  conv => whnf
  cases h : decide (lo ≤ n)
  all_goals
    conv => whnf
    exact ⟨fun ρ w' hW _ => ⟨by simp [SV.conc, wi, h], hW.toExt⟩⟩
theorem rwithin_pure : Pure Try.prog 46 (F3 fun n lo hi => .bool (wi n lo hi)) := Pure.of3 (ent _ _ Try.func46 (by kernel_rfl) rfl) rwithin_run

abbrev rpf1 : PF := [(46, F3 fun n lo hi => .bool (wi n lo hi))]
theorem rpf1_ok : PF.oks Try.prog rpf1 := ⟨rwithin_pure, trivial⟩

theorem wi_same (a b : Int) : wi a b b = (a == b) := by
  rw [Bool.eq_iff_iff]
  simp [wi]; omega
theorem wi3 (a : Int) : wi a 0 2 = (a == 0 || a == 1 || a == 2) := by
  rw [Bool.eq_iff_iff]
  simp [wi]; omega

theorem rcheck_run (p : Prm) (w : World) : Calls Try.prog 25 #[p.sv.conc env0] w fun e w' => e = .returned (.int .i64 (chk p)) ∧ Ext w w' := by
  obtain ⟨lk, leak, bias, thr, rk, reset, floor, rest⟩ := p
  have fin : ∀ x : Int, chk ⟨lk, leak, bias, thr, rk, reset, floor, rest⟩ = x → ∀ {c : Cx} {M : List (Nat × SObj)} {n : Nat}, c.w0 = w → c.L = [] → RetOk c M n (.v (.int .i64 x)) (fun e w' => e = .returned (.int .i64 (chk ⟨lk, leak, bias, thr, rk, reset, floor, rest⟩)) ∧ Ext w w') :=
    fun x hx c M n hw hL => ⟨fun ρ w' hW _ => ⟨by rw [hx]; rfl, by rw [hw, hL] at hW; exact hW.toExt⟩⟩
  refine Run.start0 (tab := tab) (pf := rpf1) (cuts := []) mixed tab_ok rpf1_ok Try.func25 rfl [.agg [ii lk, ii leak, ii bias, ii thr, ii rk, ii reset, ii floor, ii rest]] 1000 (by simp [SV.scs, SV.sc]) rfl ?_
  conv => whnf
  cases h0 : wi lk 0 2
  · conv => whnf
    exact fin 2 (by rw [chk, ← wi3, h0]; rfl) rfl rfl
  · conv => whnf
    cases h1 : wi rk 0 1
    · conv => whnf
      exact fin 2 (by simp [chk, h1]) rfl rfl
    · conv => whnf
      rw [wi3] at h0
      have hk : lk = 0 ∨ lk = 1 ∨ lk = 2 := by simp at h0; omega
      have hr : rk = 0 ∨ rk = 1 := by simp [wi] at h1; omega
      clear h0 h1
      have c1 : wi 0 0 1 = true := by decide
      have c2 : wi 1 0 1 = true := by decide
      have c3 : min (1 : Int) 0 = 0 := by decide
      have c4 : min (1 : Int) 1048576 = 1 := by decide
      have c5 : min (1 : Int) 256 = 1 := by decide
      rcases hk with hk | hk | hk <;> rcases hr with hr | hr
      all_goals
        subst hk hr
        conv => whnf
        iterate 6
          all_goals try (split <;> (rename_i h; (try simp only [h]); conv => whnf))
        all_goals first
          | exact fin 3 (by simp only [chk, most]; simp [W, wi_same, *]) rfl rfl
          | exact fin 0 (by simp only [chk, most]; simp [W, wi_same, *]) rfl rfl
theorem rcheck_pure : Pure Try.prog 25 (FP fun p => .int .i64 (chk p)) := Pure.ofP (ent _ _ Try.func25 (by kernel_rfl) rfl) rcheck_run

abbrev rpf2 : PF := (25, FP fun p => .int .i64 (chk p)) :: rpf1
theorem rpf2_ok : PF.oks Try.prog rpf2 := ⟨rcheck_pure, rpf1_ok⟩

theorem rvalid_run (p : Prm) (s : Ste) (w : World) : Calls Try.prog 26 #[p.sv.conc env0, s.sv.conc env0] w fun e w' => e = .returned (.int .i64 (vld p s)) ∧ Ext w w' := by
  obtain ⟨lk, leak, bias, thr, rk, reset, floor, rest⟩ := p
  obtain ⟨sv, sr⟩ := s
  have hchk : chk ⟨lk, leak, bias, thr, rk, reset, floor, rest⟩ ≠ 0 → vld ⟨lk, leak, bias, thr, rk, reset, floor, rest⟩ ⟨sv, sr⟩ = chk ⟨lk, leak, bias, thr, rk, reset, floor, rest⟩ := by
    intro h; rw [vld, if_pos (by simpa using h)]
  have hchk0 : chk ⟨lk, leak, bias, thr, rk, reset, floor, rest⟩ = 0 → vld ⟨lk, leak, bias, thr, rk, reset, floor, rest⟩ ⟨sv, sr⟩ = if !wi sv floor 1048576 || !wi sr 0 rest then 3 else 0 := by
    intro h; rw [vld, if_neg (by simpa using h)]
  refine Run.start0 (tab := tab) (pf := rpf2) (cuts := []) mixed tab_ok rpf2_ok Try.func26 rfl [.agg [ii lk, ii leak, ii bias, ii thr, ii rk, ii reset, ii floor, ii rest], .agg [ii sv, ii sr]] 1000 (by simp [SV.scs, SV.sc]) rfl ?_
  conv => whnf
  cases hc : chk ⟨lk, leak, bias, thr, rk, reset, floor, rest⟩ == 0
  · conv => whnf
    exact ⟨fun ρ w' hW _ => ⟨by rw [hchk (by simpa using hc)]; rfl, hW.toExt⟩⟩
  · have hz : chk ⟨lk, leak, bias, thr, rk, reset, floor, rest⟩ = 0 := by simpa using hc
    conv => whnf
    cases h1 : wi sv floor 1048576
    · conv => whnf
      exact ⟨fun ρ w' hW _ => ⟨by rw [hchk0 hz, h1]; rfl, hW.toExt⟩⟩
    · conv => whnf
      cases h2 : wi sr 0 rest
      · conv => whnf
        exact ⟨fun ρ w' hW _ => ⟨by rw [hchk0 hz, h1, h2]; rfl, hW.toExt⟩⟩
      · conv => whnf
        exact ⟨fun ρ w' hW _ => ⟨by rw [hchk0 hz, h1, h2]; simp only [SV.conc, hz]; rfl, hW.toExt⟩⟩
theorem rvalid_pure : Pure Try.prog 26 (FPS fun p s => .int .i64 (vld p s)) := Pure.ofPS (ent _ _ Try.func26 (by kernel_rfl) rfl) rvalid_run

/-! ### leak -/
/-- What the reference makes of a potential. -/
def rleak (k l v : Int) : Int := if k = 1 then (if 0 < v then max 0 (W (v - l)) else min 0 (W (v + l))) else if k = 2 then W (v - W ((W (v * l)).tdiv 256)) else v
theorem rleak_run (p : Prm) (v : Int) (w : World) : Calls Try.prog 47 #[p.sv.conc env0, .int .i64 v] w fun e w' => e = .returned (.int .i64 (rleak p.lk p.leak v)) ∧ Ext w w' := by
  obtain ⟨lk, leak, bias, thr, rk, reset, floor, rest⟩ := p
  refine Run.start0 (tab := tab) (pf := []) (cuts := []) mixed tab_ok trivial Try.func47 rfl [.agg [ii lk, ii leak, ii bias, ii thr, ii rk, ii reset, ii floor, ii rest], ii v] 1000 (by simp [SV.scs, SV.sc]) rfl ?_
  conv => whnf
  cases h1 : lk == 1
  · have h1 : ¬ lk = 1 := by simpa using h1
    conv => whnf
    cases h2 : lk == 2
    · have h2 : ¬ lk = 2 := by simpa using h2
      conv => whnf
      exact ⟨fun ρ w' hW _ => ⟨by rw [rleak, if_neg h1, if_neg h2]; rfl, hW.toExt⟩⟩
    · have h2 : lk = 2 := by simpa using h2
      conv => whnf
      refine ⟨by decide, ?_⟩
      conv => whnf
      exact ⟨fun ρ w' hW _ => ⟨by rw [rleak, if_neg h1, if_pos h2]; rfl, hW.toExt⟩⟩
  · have h1 : lk = 1 := by simpa using h1
    conv => whnf
    cases h2 : decide (0 < v)
    · have h2 : ¬ 0 < v := of_decide_eq_false h2
      conv => whnf
      exact ⟨fun ρ w' hW _ => ⟨by rw [rleak, if_pos h1, if_neg h2]; rfl, hW.toExt⟩⟩
    · have h2 : 0 < v := of_decide_eq_true h2
      conv => whnf
      exact ⟨fun ρ w' hW _ => ⟨by rw [rleak, if_pos h1, if_pos h2]; rfl, hW.toExt⟩⟩
theorem rleak_pure : Pure Try.prog 47 (FPI fun p v => .int .i64 (rleak p.lk p.leak v)) := Pure.ofPI (ent _ _ Try.func47 (by kernel_rfl) rfl) rleak_run
end Go.Proofs.Ytoipnojibkjjnaa
