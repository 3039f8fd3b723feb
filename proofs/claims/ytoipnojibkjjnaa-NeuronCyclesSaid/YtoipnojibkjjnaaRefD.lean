/-
  Walks of the functions of the reference of package neuron (part D): 'Silent', 'Next': what they compute.
  For every neuron and state; the world only gets new blocks.
-/
import Derived.Test.YtoipnojibkjjnaaRefC
import Derived.Test.YtoipnojibkjjnaaSxT
import Derived.Test.YtoipnojibkjjnaaNeuJ
namespace Go.Proofs.Ytoipnojibkjjnaa
open Go.Sx
set_option maxRecDepth 100000

theorem rSilent_run (p : Prm) (s : Ste) (n : Int) (w : World) : Calls Try.prog 28 #[p.sv.conc env0, s.sv.conc env0, .int .i64 n] w (RunPost (silR p s n) w) := by
  obtain ⟨vd, hvd⟩ : ∃ vd : Prm → Ste → Int, vld = vd := ⟨vld, rfl⟩
  have hpf : PF.oks Try.prog [(26, FPS fun p s => .int .i64 (vd p s)), (46, F3 fun n lo hi => .bool (wi n lo hi))] := by rw [← hvd]; exact ⟨rvalid_pure, rwithin_pure, trivial⟩
  have hc : ∀ (q : Cx), q = ⟨Try.prog, tab, [(26, FPS fun p s => .int .i64 (vd p s)), (46, F3 fun n lo hi => .bool (wi n lo hi))], 28, Try.f28, [], w, [], none⟩ → q.ok := by
    rintro _ rfl
    exact ⟨tab_ok, hpf, Try.func28, mixed, fun _ h => by cases h⟩
  have hR : silR p s n = if vd p s = 0 then (if wi n 0 10000 then (outs p s 0 (List.replicate n.toNat 0), steps p s (List.replicate n.toNat 0), 0) else ([], ⟨0, 0⟩, 3)) else ([], ⟨0, 0⟩, vd p s) := by rw [← hvd]; rfl
  rw [hR]
  refine Run.start0 (tab := tab) (pf := [(26, FPS fun p s => .int .i64 (vd p s)), (46, F3 fun n lo hi => .bool (wi n lo hi))]) (cuts := []) mixed tab_ok hpf Try.func28 rfl [p.sv, s.sv, ii n] 1000 (by simp [SV.scs, SV.sc, Prm.sv, Prm.cells, Ste.sv, Ste.cells]) rfl ?_
  conv => whnf
  cases hv : vd p s != 0
  · have hv0 : vd p s = 0 := by simpa using hv
    conv => whnf
    cases hl : wi n 0 10000
    · conv => whnf
      refine ⟨fun ρ w' hW _ => ⟨.slice none 0 0, ?_, hW.toExt, ?_⟩⟩
      · rw [if_pos hv0, if_neg (by decide)]; rfl
      · rw [if_pos hv0, if_neg (by decide)]; exact World.ownsRow_nil _ _ _ _
    · have hn : 0 ≤ n ∧ n ≤ 10000 := by simpa [wi] using hl
      obtain ⟨m, rfl⟩ : ∃ m : Nat, n = (m : Int) := ⟨n.toNat, by omega⟩
      rw [if_pos hv0, if_pos rfl, Int.toNat_natCast]
      have hres : rrunR p s (List.replicate m 0) = (outs p s 0 (List.replicate m 0), steps p s (List.replicate m 0), 0) := by
        rw [← run_same, runR, hvd, if_pos hv0, if_pos (by simp; omega)]
      have hR2 := fun v w1 hr => rRun_run p s v (List.replicate m 0) w1 hr
      rw [hres] at hR2
      generalize (outs p s 0 (List.replicate m 0), steps p s (List.replicate m 0), (0 : Int)) = res at hR2
      obtain ⟨l, ⟨v1, v2⟩, e⟩ := res
      conv => whnf
      refine Run.draw0 (hc _ rfl) fun l0 hl0 => ?_
      refine Run.drawP (hc _ rfl) 0 4 hl0 (by omega) ?_
      conv => whnf
      rw [opF_make (m := m) rfl rfl rfl rfl rfl rfl (by omega) (by omega)]
      conv => whnf
      refine ⟨by kernel_rfl, fun l1 hl1 => ?_⟩
      obtain ⟨l2, rfl, hl2⟩ := hl1.one (by decide) (by kernel_rfl) (by kernel_rfl)
      refine Run.post (vs := [p.sv, s.sv, .opq (0 + 1 + 1 + 1 + 3)]) (caps := []) (l, ⟨v1, v2⟩, e) rfl (fun ρ w1 hW => ?_) (ent _ _ Try.func19 (by kernel_rfl) rfl) rfl rfl rfl rfl rfl rfl rfl ?_
      · have hr := hW.rowAt (i := 0 + 1 + 1 + 1 + 3) rfl
        refine hR2 _ w1 ?_
        have e1 : SV.concs ρ (List.replicate m (SV.v (Value.int .i64 0))) = ints (List.replicate m 0) := by simp [concs_map, ints, SV.conc]
        rw [← e1]
        exact hr
      refine Run.drawP (hc _ rfl) 5 8 hl2 (by omega) ?_
      conv => whnf
      refine ⟨by kernel_rfl, fun l3 hl3 => ?_⟩
      rw [hl3.rest (by decide) (by kernel_rfl) (by kernel_rfl)]
      refine Run.of_wpK (hc _ rfl) 1000 _ ?_
      conv => whnf
      refine ⟨fun ρ w' hW _ => ⟨(SV.opq 14).conc ρ, rfl, hW.toExt, ?_⟩⟩
      have := hW.ownsNew (i := 14) (e := 1) rfl Nat.one_pos
      rw [concs_i] at this
      exact this
  · have hv0 : ¬ vd p s = 0 := by simpa using hv
    conv => whnf
    refine ⟨fun ρ w' hW _ => ⟨.slice none 0 0, ?_, hW.toExt, ?_⟩⟩
    · rw [if_neg hv0]; rfl
    · rw [if_neg hv0]; exact World.ownsRow_nil _ _ _ _

theorem rNext_bad (p : Prm) (s : Ste) (w : World) (h : ¬ vld p s = 0) : Calls Try.prog 30 #[p.sv.conc env0, s.sv.conc env0] w fun e w' => e = .returned (.tuple #[.int .i64 0, .int .i64 (vld p s)]) ∧ Ext w w' := by
  obtain ⟨vd, hvd⟩ : ∃ vd : Prm → Ste → Int, vld = vd := ⟨vld, rfl⟩
  have hpf : PF.oks Try.prog [(26, FPS fun p s => .int .i64 (vd p s))] := by rw [← hvd]; exact ⟨rvalid_pure, trivial⟩
  rw [hvd] at h ⊢
  refine Run.start0 (tab := tab) (pf := [(26, FPS fun p s => .int .i64 (vd p s))]) (cuts := []) mixed tab_ok hpf Try.func30 rfl [p.sv, s.sv] 1000 (by simp [SV.scs, SV.sc, Prm.sv, Prm.cells, Ste.sv, Ste.cells]) rfl ?_
  conv => whnf
  cases hv : vd p s != 0
  · exact absurd (by simpa using hv) h
  · conv => whnf
    exact ⟨fun ρ w' hW _ => ⟨rfl, hW.toExt⟩⟩

theorem vld_nth {p : Prm} {s : Ste} (h : vld p s = 0) : ∀ i, vld p (nth p s i) = 0
  | 0 => h
  | i + 1 => vld_step (vld_nth h i) 0

theorem rNext_run (p : Prm) (s : Ste) (w : World) (h : vld p s = 0) (N : Nat) (hN : NextIs p s N) (hb : N < 4611686018427387904) :
    Calls Try.prog 30 #[p.sv.conc env0, s.sv.conc env0] w fun e w' => e = .returned (.tuple #[.int .i64 (nextV p s N), .int .i64 0]) ∧ Ext w w' := by
  have hst : ∀ i, stepS p (nth p s i) 0 = rstepS p (nth p s i) 0 ∧ stepB p (nth p s i) 0 = rstepB p (nth p s i) 0 := by
    intro i
    obtain ⟨hg, _, hr⟩ := vld_good.1 (vld_nth h i)
    exact step_same (chk_good.2 hg) hr.1 0
  obtain ⟨vd, hvd⟩ : ∃ vd : Prm → Ste → Int, vld = vd := ⟨vld, rfl⟩
  obtain ⟨gs, hgs⟩ : ∃ gs : Prm → Ste → Int → Ste, rstepS = gs := ⟨rstepS, rfl⟩
  obtain ⟨gb, hgb⟩ : ∃ gb : Prm → Ste → Int → Bool, rstepB = gb := ⟨rstepB, rfl⟩
  have hpf : PF.oks Try.prog [(26, FPS fun p s => .int .i64 (vd p s)), (41, FPSI fun p s x => .tup [.agg [ii (gs p s x).v, ii (gs p s x).rest], .v (.bool (gb p s x))])] := by rw [← hvd, ← hgs, ← hgb]; exact ⟨rvalid_pure, go_pure, trivial⟩
  have hc : ∀ (q : Cx), q = ⟨Try.prog, tab, [(26, FPS fun p s => .int .i64 (vd p s)), (41, FPSI fun p s x => .tup [.agg [ii (gs p s x).v, ii (gs p s x).rest], .v (.bool (gb p s x))])], 30, Try.f30, [], w, [], none⟩ → q.ok := by
    rintro _ rfl
    exact ⟨tab_ok, hpf, Try.func30, mixed, fun _ h => by cases h⟩
  rw [hvd] at h
  rw [hgs, hgb] at hst
  have h1 : ∀ i, gs p (nth p s i) 0 = nth p s (i + 1) := fun i => (hst i).1.symm
  refine Run.start0 (tab := tab) (pf := [(26, FPS fun p s => .int .i64 (vd p s)), (41, FPSI fun p s x => .tup [.agg [ii (gs p s x).v, ii (gs p s x).rest], .v (.bool (gb p s x))])]) (cuts := []) mixed tab_ok hpf Try.func30 rfl [p.sv, s.sv] 1000 (by simp [SV.scs, SV.sc, Prm.sv, Prm.cells, Ste.sv, Ste.cells]) rfl ?_
  conv => whnf
  cases hv : vd p s != 0
  · conv => whnf
    refine Run.trim (T' := [(2, .ptr 0 0), (3, .ptr 1 0), (7, ii 0)]) (M' := [(0, .cells p.cells 23), (1, .cells (nth p s 0).cells 25)]) 2 ⟨⟨rfl, by simp [SV.sc]⟩, ⟨rfl, by simp [SV.sc]⟩, ⟨rfl, trivial⟩, trivial⟩
      ⟨⟨rfl, by omega, by simp [SObj.sc, Prm.cells, SV.scs, SV.sc]⟩, ⟨rfl, by omega, by simp [SObj.sc, Ste.cells, SV.scs, SV.sc]⟩, trivial⟩ (fun p hp => by cases hp) ?_
    refine Run.upTo (T := fun i => [(2, .ptr 0 0), (3, .ptr 1 0), (7, ii (i : Int))]) (M := fun i => [(0, .cells p.cells 23), (1, .cells (nth p s i).cells 25)]) N ?_ ?_
    · intro i hi ih
      refine Run.of_wpK (hc _ rfl) 1000 _ ?_
      conv => whnf
      have hb : gb ⟨p.lk, p.leak, p.bias, p.thr, p.rk, p.reset, p.floor, p.rest⟩ ⟨(nth p s i).v, (nth p s i).rest⟩ 0 = false := (hst i).2.symm.trans (hN.1 i hi).1
      rw [hb]
      conv => whnf
      have hq : ((gs ⟨p.lk, p.leak, p.bias, p.thr, p.rk, p.reset, p.floor, p.rest⟩ ⟨(nth p s i).v, (nth p s i).rest⟩ 0).v == (nth p s i).v && ((gs ⟨p.lk, p.leak, p.bias, p.thr, p.rk, p.reset, p.floor, p.rest⟩ ⟨(nth p s i).v, (nth p s i).rest⟩ 0).rest == (nth p s i).rest && true)) = false := by
        show same (gs p (nth p s i) 0) (nth p s i) = false
        rw [h1]
        cases hq : same (nth p s (i + 1)) (nth p s i)
        · rfl
        · exact absurd ((same_iff _ _).1 hq) (hN.1 i hi).2
      rw [hq]
      conv => whnf
      rw [wrap_succ (by omega)]
      refine Run.trim (T' := [(2, .ptr 0 0), (3, .ptr 1 0), (7, ii ((i + 1 : Nat) : Int))]) (M' := [(0, .cells p.cells 23), (1, .cells (gs p (nth p s i) 0).cells 25)]) 2 ⟨⟨rfl, by simp [SV.sc]⟩, ⟨rfl, by simp [SV.sc]⟩, ⟨rfl, trivial⟩, trivial⟩
        ⟨⟨rfl, by omega, by simp [SObj.sc, Prm.cells, SV.scs, SV.sc]⟩, ⟨rfl, by omega, by simp [SObj.sc, Ste.cells, SV.scs, SV.sc]⟩, trivial⟩ (fun p hp => by cases hp) ?_
      rw [h1]
      exact ih
    · refine Run.of_wpK (hc _ rfl) 1000 _ ?_
      conv => whnf
      cases hf : gb ⟨p.lk, p.leak, p.bias, p.thr, p.rk, p.reset, p.floor, p.rest⟩ ⟨(nth p s N).v, (nth p s N).rest⟩ 0 with
      | true =>
        conv => whnf
        have hf' : stepB p (nth p s N) 0 = true := (hst N).2.trans hf
        refine ⟨fun ρ w' hW _ => ⟨?_, hW.toExt⟩⟩
        rw [nextV, hf', if_pos rfl]; rfl
      | false =>
        conv => whnf
        have hf' : stepB p (nth p s N) 0 = false := (hst N).2.trans hf
        have hq : ((gs ⟨p.lk, p.leak, p.bias, p.thr, p.rk, p.reset, p.floor, p.rest⟩ ⟨(nth p s N).v, (nth p s N).rest⟩ 0).v == (nth p s N).v && ((gs ⟨p.lk, p.leak, p.bias, p.thr, p.rk, p.reset, p.floor, p.rest⟩ ⟨(nth p s N).v, (nth p s N).rest⟩ 0).rest == (nth p s N).rest && true)) = true := by
          show same (gs p (nth p s N) 0) (nth p s N) = true
          rw [h1]
          refine (same_iff _ _).2 ?_
          rcases hN.2 with h | h
          · rw [hf'] at h; cases h
          · exact h
        rw [hq]
        conv => whnf
        refine ⟨fun ρ w' hW _ => ⟨?_, hW.toExt⟩⟩
        rw [nextV, hf']; rfl
  · exact absurd h (by simpa using hv)
end Go.Proofs.Ytoipnojibkjjnaa
