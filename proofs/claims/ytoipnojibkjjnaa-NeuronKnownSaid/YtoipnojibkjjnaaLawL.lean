/-
  Walk of the statement 'NeuronKnown': it returns true.
  No condition; the world only gets new blocks.
-/
import Derived.Test.YtoipnojibkjjnaaLawK
import Derived.Test.YtoipnojibkjjnaaNeuL
namespace Go.Proofs.Ytoipnojibkjjnaa
open Go.Sx
set_option maxRecDepth 100000

theorem silR_known : silR exB ⟨0, 0⟩ 10 = ([2, 5, 9], ⟨1, 1⟩, 0) := by kernel_rfl
theorem next_of {p : Prm} {s : Ste} (N : Nat) (h1 : (List.range N).all (fun i => !stepB p (nth p s i) 0 && !same (nth p s (i + 1)) (nth p s i)) = true) (h2 : stepB p (nth p s N) 0 = true ∨ nth p s (N + 1) = nth p s N) : NextIs p s N := by
  refine ⟨fun i hi => ?_, h2⟩
  have := List.all_eq_true.1 h1 i (List.mem_range.2 hi)
  simp only [Bool.and_eq_true, Bool.not_eq_true'] at this
  exact ⟨this.1, fun hc => by rw [(same_iff _ _).2 hc] at this; exact absurd this.2 (by decide)⟩
theorem next_known1 : NextIs exA ⟨4, 0⟩ 4 := next_of 4 (by kernel_rfl) (.inr (by kernel_rfl))
theorem next_known2 : NextIs exB ⟨0, 0⟩ 2 := next_of 2 (by kernel_rfl) (.inl (by kernel_rfl))
theorem cycle_of {p : Prm} {s : Ste} {x : Int} (h : vld p s = 0) (N mu lam : Nat) (hN : sq p s x (N + 1) = sq p s x (mw N).1) (h1 : (List.range N).all (fun i => !same (sq p s x (i + 1)) (sq p s x (mw i).1)) = true) (hNb : N ≤ 60000) (hl : N + 1 - (mw N).1 = lam)
    (hmu : sq p s x mu = sq p s x (mu + lam)) (hmN : mu ≤ 5000) (hm2 : mu ≤ N) (h2 : (List.range mu).all (fun k => !same (sq p s x k) (sq p s x (k + lam))) = true) (w : World) :
    Calls Try.prog 35 #[p.sv.conc env0, s.sv.conc env0, .int .i64 x] w fun e w' => e = .returned (.tuple #[.int .i64 (mu : Int), .int .i64 (lam : Int), .int .i64 (cnt p s x mu lam : Int), .int .i64 0]) ∧ Ext w w' := by
  subst hl
  have := Cycle_run p s x w h N (.inl hN) (fun i hi hc => ?_) (by omega) mu (fun _ => ⟨hmu, hm2, fun k hk hc => ?_⟩)
  · have e : cycV p s x N mu = _ := if_pos ((same_iff _ _).2 hN)
    rw [if_pos (by omega)] at e
    rw [e] at this
    exact this
  · have h3 := List.all_eq_true.1 h1 i (List.mem_range.2 hi)
    rcases hc with hc | hc
    · rw [(same_iff _ _).2 hc] at h3; exact absurd h3 (by decide)
    · omega
  · have h3 := List.all_eq_true.1 h2 k (List.mem_range.2 hk)
    rw [(same_iff _ _).2 hc] at h3; exact absurd h3 (by decide)
theorem cycle_known1 (w : World) : Calls Try.prog 35 #[exA.sv.conc env0, (⟨0, 0⟩ : Ste).sv.conc env0, .int .i64 2] w fun e w' => e = .returned (.tuple #[.int .i64 0, .int .i64 5, .int .i64 1, .int .i64 0]) ∧ Ext w w' := cycle_of (p := exA) (s := ⟨0, 0⟩) (x := 2) (by kernel_rfl) 11 0 5 (by kernel_rfl) (by kernel_rfl) (by decide) (by kernel_rfl) (by kernel_rfl) (by decide) (by decide) (by kernel_rfl) w
theorem cycle_known2 (w : World) : Calls Try.prog 35 #[exA.sv.conc env0, (⟨3, 0⟩ : Ste).sv.conc env0, .int .i64 0] w fun e w' => e = .returned (.tuple #[.int .i64 3, .int .i64 1, .int .i64 0, .int .i64 0]) ∧ Ext w w' := cycle_of (p := exA) (s := ⟨3, 0⟩) (x := 0) (by kernel_rfl) 3 3 1 (by kernel_rfl) (by kernel_rfl) (by decide) (by kernel_rfl) (by kernel_rfl) (by decide) (by decide) (by kernel_rfl) w

abbrev pfK : PF := (24, FP fun p => .int .i64 (chk p)) :: (37, FC exA.sv) :: (38, FC exB.sv) :: pfW
theorem pfK_ok : PF.oks Try.prog pfK := ⟨check_pure, A_pure, B_pure, pfW_ok⟩
theorem neuronKnown_walk (w : World) :
    Calls Try.prog 14 #[] w fun e w' => e = .returned (.bool true) ∧ Ext w w' := by
  have hc : ∀ (q : Cx), q = ⟨Try.prog, tab, pfK, 14, Try.f14, [], w, [], none⟩ → q.ok := by
    rintro _ rfl
    exact ⟨tab_ok, pfK_ok, Try.func14, mixed, fun _ h => by cases h⟩
  refine Run.start0 (tab := tab) (pf := pfK) (cuts := []) mixed tab_ok pfK_ok Try.func14 rfl [] 1000 (by simp [SV.scs]) rfl ?_
  conv => whnf
  refine Run.callE (g := 15) (vs := [exA.sv, (⟨0, 0⟩ : Ste).sv, ii (3)]) (caps := []) (.tup [.agg [ii (3), ii 0], .v (.bool false), ii 0]) (fun ρ w _ => (Tick_run exA ⟨0, 0⟩ (3) w).mono fun e w' ⟨he, hx⟩ => ⟨by rw [he]; kernel_rfl, hx⟩) (ent _ _ Try.func15 (by kernel_rfl) rfl) rfl rfl rfl rfl rfl rfl rfl ⟨⟨trivial, trivial, trivial⟩, trivial, trivial, trivial⟩ ?_
  refine Run.of_wpK (hc _ rfl) 1000 _ ?_
  conv => whnf
  refine Run.callE (g := 15) (vs := [exA.sv, (⟨0, 1⟩ : Ste).sv, ii (9)]) (caps := []) (.tup [.agg [ii (0), ii 0], .v (.bool false), ii 0]) (fun ρ w _ => (Tick_run exA ⟨0, 1⟩ (9) w).mono fun e w' ⟨he, hx⟩ => ⟨by rw [he]; kernel_rfl, hx⟩) (ent _ _ Try.func15 (by kernel_rfl) rfl) rfl rfl rfl rfl rfl rfl rfl ⟨⟨trivial, trivial, trivial⟩, trivial, trivial, trivial⟩ ?_
  refine Run.of_wpK (hc _ rfl) 1000 _ ?_
  conv => whnf
  refine Run.callE (g := 15) (vs := [exA.sv, (⟨0, 0⟩ : Ste).sv, ii (-9)]) (caps := []) (.tup [.agg [ii (-4), ii 0], .v (.bool false), ii 0]) (fun ρ w _ => (Tick_run exA ⟨0, 0⟩ (-9) w).mono fun e w' ⟨he, hx⟩ => ⟨by rw [he]; kernel_rfl, hx⟩) (ent _ _ Try.func15 (by kernel_rfl) rfl) rfl rfl rfl rfl rfl rfl rfl ⟨⟨trivial, trivial, trivial⟩, trivial, trivial, trivial⟩ ?_
  refine Run.of_wpK (hc _ rfl) 1000 _ ?_
  conv => whnf
  refine Run.callE (g := 15) (vs := [exA.sv, (⟨0, 0⟩ : Ste).sv, ii (1152921504606846976)]) (caps := []) (.tup [.agg [ii (0), ii 1], .v (.bool true), ii 0]) (fun ρ w _ => (Tick_run exA ⟨0, 0⟩ (1152921504606846976) w).mono fun e w' ⟨he, hx⟩ => ⟨by rw [he]; kernel_rfl, hx⟩) (ent _ _ Try.func15 (by kernel_rfl) rfl) rfl rfl rfl rfl rfl rfl rfl ⟨⟨trivial, trivial, trivial⟩, trivial, trivial, trivial⟩ ?_
  refine Run.of_wpK (hc _ rfl) 1000 _ ?_
  conv => whnf
  refine Run.callE (g := 29) (vs := [exA.sv, (⟨4, 0⟩ : Ste).sv]) (caps := []) (.tup [ii (-1), ii 0]) (fun ρ w _ => (Next_run exA ⟨4, 0⟩ w (by kernel_rfl) 4 next_known1 (by decide)).mono fun e w' ⟨he, hx⟩ => ⟨by rw [he]; kernel_rfl, hx⟩) (ent _ _ Try.func29 (by kernel_rfl) rfl) rfl rfl rfl rfl rfl rfl rfl ⟨trivial, trivial, trivial⟩ ?_
  refine Run.of_wpK (hc _ rfl) 1000 _ ?_
  conv => whnf
  refine Run.callE (g := 29) (vs := [exB.sv, (⟨0, 0⟩ : Ste).sv]) (caps := []) (.tup [ii (2), ii 0]) (fun ρ w _ => (Next_run exB ⟨0, 0⟩ w (by kernel_rfl) 2 next_known2 (by decide)).mono fun e w' ⟨he, hx⟩ => ⟨by rw [he]; kernel_rfl, hx⟩) (ent _ _ Try.func29 (by kernel_rfl) rfl) rfl rfl rfl rfl rfl rfl rfl ⟨trivial, trivial, trivial⟩ ?_
  refine Run.of_wpK (hc _ rfl) 1000 _ ?_
  conv => whnf
  refine Run.post (vs := [exB.sv, (⟨0, 0⟩ : Ste).sv, ii 10]) (caps := []) ([2, 5, 9], ⟨1, 1⟩, 0) rfl (fun ρ w1 hW => ?_) (ent _ _ Try.func27 (by kernel_rfl) rfl) rfl rfl rfl rfl rfl rfl rfl ?_
  · have := Silent_run exB ⟨0, 0⟩ 10 w1
    rw [silR_known] at this
    exact this
  refine Run.of_wpK (hc _ rfl) 1000 _ ?_
  conv => whnf
  refine Run.callE (g := 20) (vs := [.opq (0 + 1 + 1 + 1 + 1), .slc (0 + 1 + 1 + 1 + 1 + 1 + 1) 0 3 3]) (caps := []) (.v (.bool true)) (fun ρ w1 hW => ?_) (ent _ _ Try.func20 (by kernel_rfl) rfl) rfl rfl rfl rfl rfl rfl rfl trivial ?_
  · have h1 : RowAt w1 ((SV.opq (0 + 1 + 1 + 1 + 1)).conc ρ) (SV.concs ρ (([2, 5, 9] : List Int).map fun x => .v (.int .i64 x))) := hW.rowAt (i := (0 + 1 + 1 + 1 + 1)) rfl
    have h2 : RowAt w1 ((SV.slc (0 + 1 + 1 + 1 + 1 + 1 + 1) 0 3 3).conc ρ) (ints [2, 5, 9]) := hW.slcAt (i := (0 + 1 + 1 + 1 + 1 + 1 + 1)) rfl
    rw [concs_i] at h1
    exact equal_run _ _ [2, 5, 9] [2, 5, 9] w1 h1 h2 (by decide)
  refine Run.of_wpK (hc _ rfl) 1000 _ ?_
  conv => whnf
  refine Run.callE (g := 35) (vs := [exA.sv, (⟨0, 0⟩ : Ste).sv, ii 2]) (caps := []) (.tup [ii 0, ii 5, ii 1, ii 0]) (fun ρ w _ => (cycle_known1 w).mono fun e w' ⟨he, hx⟩ => ⟨by rw [he]; kernel_rfl, hx⟩) (ent _ _ Try.func35 (by kernel_rfl) rfl) rfl rfl rfl rfl rfl rfl rfl ⟨trivial, trivial, trivial, trivial, trivial⟩ ?_
  refine Run.of_wpK (hc _ rfl) 1000 _ ?_
  conv => whnf
  refine Run.callE (g := 35) (vs := [exA.sv, (⟨3, 0⟩ : Ste).sv, ii 0]) (caps := []) (.tup [ii 3, ii 1, ii 0, ii 0]) (fun ρ w _ => (cycle_known2 w).mono fun e w' ⟨he, hx⟩ => ⟨by rw [he]; kernel_rfl, hx⟩) (ent _ _ Try.func35 (by kernel_rfl) rfl) rfl rfl rfl rfl rfl rfl rfl ⟨trivial, trivial, trivial, trivial, trivial⟩ ?_
  refine Run.of_wpK (hc _ rfl) 1000 _ ?_
  conv => whnf
  refine Run.postB (vs := [exA.sv]) (caps := []) [1, 0, 0, 1, 0, 0, 0, 0, 0, 5, 0, 0, 0, 255, 255, 252, 1] 0 rfl (fun ρ w1 hW => ?_) (ent _ _ Try.func31 (by kernel_rfl) rfl) rfl rfl rfl rfl rfl rfl rfl ?_
  · have := Pack_run exA w1
    rw [show packR exA = [1, 0, 0, 1, 0, 0, 0, 0, 0, 5, 0, 0, 0, 255, 255, 252, 1] by kernel_rfl, show chk exA = 0 by kernel_rfl] at this
    exact this
  refine Run.of_wpK (hc _ rfl) 1000 _ ?_
  conv => whnf
  refine Run.toStr [1, 0, 0, 1, 0, 0, 0, 0, 0, 5, 0, 0, 0, 255, 255, 252, 1] rfl rfl rfl rfl rfl rfl rfl rfl (fun ρ w1 hW => ?_) ?_
  · have h1 := hW.rowAt (i := 0 + 1 + 1 + 1 + 1 + 1 + 1 + 1) rfl
    exact h1
  refine Run.of_wpK (hc _ rfl) 1000 _ ?_
  conv => whnf
  refine Run.toStr [1, 0, 0, 1, 0, 0, 0, 0, 0, 5, 0, 0, 0, 255, 255, 252, 1] rfl rfl rfl rfl rfl rfl rfl rfl (fun ρ w1 hW => ?_) ?_
  · exact hW.slcAt (i := 0 + 1 + 1 + 1 + 1 + 1 + 1 + 1 + 1 + 1 + 1 + 1 + 1) rfl
  refine Run.eqStr (a1 := strOf [1, 0, 0, 1, 0, 0, 0, 0, 0, 5, 0, 0, 0, 255, 255, 252, 1]) (a2 := strOf [1, 0, 0, 1, 0, 0, 0, 0, 0, 5, 0, 0, 0, 255, 255, 252, 1]) rfl rfl rfl rfl rfl rfl ?_
  rw [show ((strOf [1, 0, 0, 1, 0, 0, 0, 0, 0, 5, 0, 0, 0, 255, 255, 252, 1]).toList == (strOf [1, 0, 0, 1, 0, 0, 0, 0, 0, 5, 0, 0, 0, 255, 255, 252, 1]).toList) = true by simp]
  refine Run.of_wpK (hc _ rfl) 1000 _ ?_
  conv => whnf
  exact ⟨fun ρ w' hW _ => ⟨rfl, hW.toExt⟩⟩
end Go.Proofs.Ytoipnojibkjjnaa
