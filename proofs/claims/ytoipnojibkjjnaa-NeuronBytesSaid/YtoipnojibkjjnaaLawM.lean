/-
  Walk of the statement 'NeuronBytes': it returns true.
  For every input; the world only gets new blocks.
-/
import Derived.Test.YtoipnojibkjjnaaLawK
import Derived.Test.YtoipnojibkjjnaaRefF
namespace Go.Proofs.Ytoipnojibkjjnaa
open Go.Sx
set_option maxRecDepth 100000

theorem neuronBytes_walk (w : World) (p : Prm) (_ : p.fits) (v : Value) (bs : List Int) (hr : RowAt w v (bs.map fun x => .int .u8 x)) (hwf : ∀ n ∈ bs, (Lit.int .u8 n).wf = true) (_ : bs.length ≤ maxLen) (hcap0 : ∃ p len cap, v = .slice p len cap ∧ len ≤ cap) :
    Calls Try.prog 10 #[p.sv.conc env0, v] w fun e w' => e = .returned (.bool true) ∧ Ext w w' := by
  have hby : ∀ b ∈ bs, Byte b := fun b hb => by have := bounds_u8 (hwf b hb); unfold Byte; omega
  have hc : ∀ (q : Cx), q = ⟨Try.prog, tab, pfW, 10, Try.f10, [], w, [], none⟩ → q.ok := by
    rintro _ rfl
    exact ⟨tab_ok, pfW_ok, Try.func10, mixed, fun _ h => by cases h⟩
  obtain ⟨pp, cap, rfl⟩ := hr.len
  rw [List.length_map] at hr hcap0 ⊢
  have hcap : bs.length ≤ cap := by
    obtain ⟨_, _, _, h, hle⟩ := hcap0
    simp only [Value.slice.injEq] at h
    omega
  obtain ⟨bt, hbt⟩ : ∃ bt, packR p = bt := ⟨_, rfl⟩
  obtain ⟨ce, hce⟩ : ∃ ce, chk p = ce := ⟨_, rfl⟩
  obtain ⟨q, er, hu⟩ : ∃ q er, upR bs = (q, er) := ⟨_, _, rfl⟩
  refine Run.start0 (tab := tab) (pf := pfW) (cuts := []) mixed tab_ok pfW_ok Try.func10 rfl [p.sv, .v (.slice pp bs.length cap)] 1000 (by simp [SV.scs, SV.sc, Prm.sv, Prm.cells]) rfl ?_
  conv => whnf
  cases hl : decide ((100 : Int) < (bs.length : Int))
  · conv => whnf
    refine Run.postB (vs := [p.sv]) (caps := []) bt ce rfl (fun ρ w1 hW => by have := Pack_run p w1; rw [hbt, hce] at this; exact this) (ent _ _ Try.func31 (by kernel_rfl) rfl) rfl rfl rfl rfl rfl rfl rfl ?_
    refine Run.of_wpK (hc _ rfl) 1000 _ ?_
    conv => whnf
    refine Run.postB (vs := [p.sv]) (caps := []) bt ce rfl (fun ρ w1 hW => by have := rPack_run p w1; rw [hbt, hce] at this; exact this) (ent _ _ Try.func32 (by kernel_rfl) rfl) rfl rfl rfl rfl rfl rfl rfl ?_
    refine Run.of_wpK (hc _ rfl) 1000 _ ?_
    conv => whnf
    refine Run.callE (g := 33) (vs := [.v (.slice pp bs.length cap)]) (caps := []) (.tup [q.sv, ii er]) (fun ρ w1 hW => ?_) (ent _ _ Try.func33 (by kernel_rfl) rfl) rfl rfl rfl rfl rfl rfl rfl (by simp [SV.sc, SV.scs, Prm.sv, Prm.cells]) ?_
    · have := Unpack_run _ _ w1 (hr.ext hW.toExt)
      rw [hu] at this
      exact this.mono fun _ w' ⟨he, hx⟩ => ⟨by rw [he]; rfl, hx⟩
    refine Run.of_wpK (hc _ rfl) 1000 _ ?_
    conv => whnf
    refine Run.callE (g := 34) (vs := [.v (.slice pp bs.length cap)]) (caps := []) (.tup [q.sv, ii er]) (fun ρ w1 hW => ?_) (ent _ _ Try.func34 (by kernel_rfl) rfl) rfl rfl rfl rfl rfl rfl rfl (by simp [SV.sc, SV.scs, Prm.sv, Prm.cells]) ?_
    · have := rUnpack_run _ _ w1 (hr.ext hW.toExt) hby ⟨_, _, _, rfl, hcap⟩
      rw [hu] at this
      exact this.mono fun _ w' ⟨he, hx⟩ => ⟨by rw [he]; rfl, hx⟩
    refine Run.of_wpK (hc _ rfl) 1000 _ ?_
    conv => whnf
    refine Run.toStr bt rfl rfl rfl rfl rfl rfl rfl rfl (fun ρ w1 hW => ?_) ?_
    · have h1 : RowAt w1 ((SV.opq (0 + 1)).conc ρ) (SV.concs ρ (bt.map fun x => .v (.int .u8 x))) := hW.rowAt (i := 0 + 1) rfl
      rw [concs_u] at h1
      exact h1
    refine Run.of_wpK (hc _ rfl) 1000 _ ?_
    conv => whnf
    refine Run.toStr bt rfl rfl rfl rfl rfl rfl rfl rfl (fun ρ w1 hW => ?_) ?_
    · have h1 : RowAt w1 ((SV.opq (0 + 1 + 1)).conc ρ) (SV.concs ρ (bt.map fun x => .v (.int .u8 x))) := hW.rowAt (i := 0 + 1 + 1) rfl
      rw [concs_u] at h1
      exact h1
    refine Run.eqStr (a1 := strOf bt) (a2 := strOf bt) rfl rfl rfl rfl rfl rfl ?_
    rw [show ((strOf bt).toList == (strOf bt).toList) = true by simp]
    refine Run.of_wpK (hc _ rfl) 1000 _ ?_
    conv => whnf
    rw [show (ce == ce) = true by simp]
    conv => whnf
    rw [show (q.lk == q.lk && (q.leak == q.leak && (q.bias == q.bias && (q.thr == q.thr && (q.rk == q.rk && (q.reset == q.reset && (q.floor == q.floor && (q.rest == q.rest && true)))))))) = true by simp]
    conv => whnf
    rw [show (er == er) = true by simp]
    conv => whnf
    exact ⟨fun ρ w' hW _ => ⟨rfl, hW.toExt⟩⟩
  · conv => whnf
    exact ⟨fun ρ w' hW _ => ⟨rfl, hW.toExt⟩⟩
end Go.Proofs.Ytoipnojibkjjnaa
