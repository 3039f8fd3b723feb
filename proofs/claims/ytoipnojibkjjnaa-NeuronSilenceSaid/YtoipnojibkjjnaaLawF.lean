/-
  Walk of the statement 'NeuronSilences': it returns true.
  For every input; the world only gets new blocks.
-/
import Derived.Test.YtoipnojibkjjnaaLawB
import Derived.Test.YtoipnojibkjjnaaRefD
import Derived.Test.YtoipnojibkjjnaaPlainB
namespace Go.Proofs.Ytoipnojibkjjnaa
open Go.Sx
set_option maxRecDepth 100000

theorem silR_len (p : Prm) (s : Ste) (n : Int) : (silR p s n).1.length < 4611686018427387904 := by
  unfold silR
  split
  · split
    · rename_i h
      have hn : 0 ≤ n ∧ n ≤ 10000 := by simpa [wi] using h
      have := outs_length p (List.replicate n.toNat 0) s 0
      show (outs p s 0 (List.replicate n.toNat 0)).length < _
      simp at this
      omega
    · exact Nat.zero_lt_succ _
  · exact Nat.zero_lt_succ _
theorem next_both (p : Prm) (s : Ste) : ∃ a e : Int, (∀ w, Calls Try.prog 29 #[p.sv.conc env0, s.sv.conc env0] w fun x w' => x = .returned (.tuple #[.int .i64 a, .int .i64 e]) ∧ Ext w w') ∧
    (∀ w, Calls Try.prog 30 #[p.sv.conc env0, s.sv.conc env0] w fun x w' => x = .returned (.tuple #[.int .i64 a, .int .i64 e]) ∧ Ext w w') := by
  by_cases h : vld p s = 0
  · obtain ⟨N, hN, hn⟩ := next_exists h
    exact ⟨nextV p s N, 0, fun w => Next_run p s w h N hn hN, fun w => rNext_run p s w h N hn hN⟩
  · exact ⟨0, vld p s, fun w => Next_bad p s w h, fun w => rNext_bad p s w h⟩

theorem neuronSilences_walk (w : World) (p : Prm) (_ : p.fits) (s : Ste) (_ : s.fits) (n : Int) (_ : I64 n) : Calls Try.prog 8 #[p.sv.conc env0, s.sv.conc env0, .int .i64 n] w fun e w' => e = .returned (.bool true) ∧ Ext w w' := by
  have hc : ∀ (q : Cx), q = ⟨Try.prog, tab, pfW, 8, Try.f8, [], w, [], none⟩ → q.ok := by
    rintro _ rfl
    exact ⟨tab_ok, pfW_ok, Try.func8, mixed, fun _ h => by cases h⟩
  have hR := fun w1 => Silent_run p s n w1
  have hR2 := fun w1 => rSilent_run p s n w1
  have hl := silR_len p s n
  generalize silR p s n = res at hR hR2 hl
  obtain ⟨l, ⟨v1, v2⟩, e⟩ := res
  obtain ⟨a, g, hN1, hN2⟩ := next_both p s
  refine Run.start0 (tab := tab) (pf := pfW) (cuts := []) mixed tab_ok pfW_ok Try.func8 rfl [p.sv, s.sv, ii n] 1000 (by simp [SV.scs, SV.sc, Prm.sv, Prm.cells, Ste.sv, Ste.cells]) rfl ?_
  conv => whnf
  refine Run.post (vs := [p.sv, s.sv, ii n]) (caps := []) (l, ⟨v1, v2⟩, e) rfl (fun ρ w1 hW => hR w1) (ent _ _ Try.func27 (by kernel_rfl) rfl) rfl rfl rfl rfl rfl rfl rfl ?_
  refine Run.of_wpK (hc _ rfl) 1000 _ ?_
  conv => whnf
  refine Run.post (vs := [p.sv, s.sv, ii n]) (caps := []) (l, ⟨v1, v2⟩, e) rfl (fun ρ w1 hW => hR2 w1) (ent _ _ Try.func28 (by kernel_rfl) rfl) rfl rfl rfl rfl rfl rfl rfl ?_
  refine Run.of_wpK (hc _ rfl) 1000 _ ?_
  conv => whnf
  refine Run.callE (g := 29) (vs := [p.sv, s.sv]) (caps := []) (.tup [ii a, ii g]) (fun ρ w _ => (hN1 w).mono fun _ w' ⟨he, hx⟩ => ⟨by rw [he]; rfl, hx⟩) (ent _ _ Try.func29 (by kernel_rfl) rfl) rfl rfl rfl rfl rfl rfl rfl ⟨trivial, trivial, trivial⟩ ?_
  refine Run.of_wpK (hc _ rfl) 1000 _ ?_
  conv => whnf
  refine Run.callE (g := 30) (vs := [p.sv, s.sv]) (caps := []) (.tup [ii a, ii g]) (fun ρ w _ => (hN2 w).mono fun _ w' ⟨he, hx⟩ => ⟨by rw [he]; rfl, hx⟩) (ent _ _ Try.func30 (by kernel_rfl) rfl) rfl rfl rfl rfl rfl rfl rfl ⟨trivial, trivial, trivial⟩ ?_
  refine Run.of_wpK (hc _ rfl) 1000 _ ?_
  conv => whnf
  refine Run.equal l l hl rfl rfl rfl rfl rfl rfl rfl rfl rfl rfl ?_
  rw [show (l == l) = true by simp]
  refine Run.of_wpK (hc _ rfl) 1000 _ ?_
  conv => whnf
  rw [show (v1 == v1 && (v2 == v2 && true)) = true by simp]
  conv => whnf
  rw [show (e == e) = true by simp]
  conv => whnf
  rw [show (a == a) = true by simp]
  conv => whnf
  rw [show (g == g) = true by simp]
  conv => whnf
  exact ⟨fun ρ w' hW _ => ⟨rfl, hW.toExt⟩⟩
end Go.Proofs.Ytoipnojibkjjnaa
