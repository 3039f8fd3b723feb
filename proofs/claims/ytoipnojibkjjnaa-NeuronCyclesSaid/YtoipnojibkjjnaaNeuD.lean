/-
  Walks of the functions of package neuron (part D): 'Tick', 'Leak': what they compute.
  For every argument; the world only gets new blocks.
-/
import Derived.Test.YtoipnojibkjjnaaNeuC
namespace Go.Proofs.Ytoipnojibkjjnaa
open Go.Sx
set_option maxRecDepth 100000

section
variable {c : Cx} {T : List (Nat × SV)} {M : List (Nat × SObj)} {n : Nat} {D : List Deferred} {ops : Array Oper} {i : Nat} {r : List Nat} {k : List Item} {R : Ending → World → Prop} {o : Oper} {f : Operand} {args : Array Operand} {ts : Array TypeId} {fv : SV}
theorem Run.newCell (p : Prm) (s : Ste) (hv : vld p s = 0) (hP : c.P = Try.prog) (ho : get ops.toList i = some o) (hop : o.op = .call { callee := .value f, args := args, argTypes := ts }) (hw : wantS ops.toList (Sx.look T) o = some true) (hd : okD c.fn.ntmps o.dst = true)
    (hf : ev (Sx.look T) f = some fv) (hfv : calleeOf fv = some (39, [])) (hvs : evs (Sx.look T) args.toList = some [p.sv, s.sv])
    (h : Run c ⟨putS T o.dst (.tup [.ptr n 0, ii 0]), (n, .cells (cellOf p s) 63) :: M, n + 1, D, .inRegion ops r :: k⟩ R) : Run c ⟨T, M, n, D, .inRegion ops (i :: r) :: k⟩ R := by
  refine Run.callG ho hop hw hd hf hfv hvs (by rw [hP]; exact ent _ _ Try.func39 (by kernel_rfl) rfl) (fun v M' n' => v = .tup [.ptr n 0, ii 0] ∧ M' = (n, .cells (cellOf p s) 63) :: M ∧ n' = n + 1) (fun ρ w _ hW => ?_) (fun v M' n' hp => ?_)
  · rw [hP]
    refine (newCell_ok p s hv w).mono fun e w' ⟨b, he, hx, hb, hc⟩ => ?_
    obtain ⟨h1, h2⟩ := hW.adopt hx (i := n) (b := b) (o := .cells (cellOf p s) 63) (Nat.lt_irrefl n) hb (by simp [SObj.sc, cellOf, Prm.cells, Ste.cells, SV.scs, SV.sc]) (fun ρ' _ hs h0 => ⟨h0, by rw [hs]; exact hc⟩)
    refine ⟨_, _, _, _, ?_, h2, Nat.le_succ n, ?_, ?_, rfl, rfl, rfl⟩
    · rw [he]
      simp [SV.conc, SV.concs, Env.bind]
    · exact ⟨Nat.lt_succ_self n, trivial, trivial⟩
    · rw [look_upd]
      exact h1.mono fun j hj => by omega
  · obtain ⟨rfl, rfl, rfl⟩ := hp; exact h

theorem Run.newCell_bad (p : Prm) (s : Ste) (hv : vld p s ≠ 0) (hP : c.P = Try.prog) (ho : get ops.toList i = some o) (hop : o.op = .call { callee := .value f, args := args, argTypes := ts }) (hw : wantS ops.toList (Sx.look T) o = some true) (hd : okD c.fn.ntmps o.dst = true)
    (hf : ev (Sx.look T) f = some fv) (hfv : calleeOf fv = some (39, [])) (hvs : evs (Sx.look T) args.toList = some [p.sv, s.sv])
    (h : Run c ⟨putS T o.dst (.tup [.v (.pointer none), ii (vld p s)]), M, n, D, .inRegion ops r :: k⟩ R) : Run c ⟨T, M, n, D, .inRegion ops (i :: r) :: k⟩ R := by
  refine Run.callE (.tup [.v (.pointer none), ii (vld p s)]) (fun ρ w _ => ?_) (by rw [hP]; exact ent _ _ Try.func39 (by kernel_rfl) rfl) ho hop hw hd hf hfv hvs ⟨trivial, trivial, trivial⟩ h
  rw [hP]
  exact Go.Proofs.Ytoipnojibkjjnaa.newCell_bad p s hv w

theorem Run.tick (p : Prm) (s : Ste) (x : Int) (j : Nat) (hk : p.lk = 0 ∨ p.lk = 1 ∨ p.lk = 2) (hj : Sx.look M j = some (.cells (cellOf p s) 63)) (hP : c.P = Try.prog) (ho : get ops.toList i = some o) (hop : o.op = .call { callee := .value f, args := args, argTypes := ts }) (hw : wantS ops.toList (Sx.look T) o = some true) (hd : okD c.fn.ntmps o.dst = true)
    (hf : ev (Sx.look T) f = some fv) (hfv : calleeOf fv = some (40, [])) (hvs : evs (Sx.look T) args.toList = some [.ptr j 0, ii x])
    (h : Run c ⟨putS T o.dst (.v (.bool (stepB p s x))), (j, .cells (cellOf p (stepS p s x)) 63) :: M, n, D, .inRegion ops r :: k⟩ R) : Run c ⟨T, M, n, D, .inRegion ops (i :: r) :: k⟩ R := by
  refine Run.callG ho hop hw hd hf hfv hvs (by rw [hP]; exact ent _ _ Try.func40 (by kernel_rfl) rfl) (fun v M' n' => v = .v (.bool (stepB p s x)) ∧ M' = (j, .cells (cellOf p (stepS p s x)) 63) :: M ∧ n' = n) (fun ρ w _ hW => ?_) (fun v M' n' hp => ?_)
  · rw [hP]
    obtain ⟨h1, h2, h3, h4⟩ := hW.mem j _ hj
    have := tick_run p s x hk (ρ.s j) w h4
    have ha : (SV.concs ρ ([.ptr j 0, ii x] ++ [])).toArray = #[.pointer (some ⟨ρ.s j, 0, none⟩), .int .i64 x] := by simp [SV.concs, SV.conc, h3]
    rw [ha]
    refine this.mono fun e w' ⟨he, hm, hc⟩ => ⟨ρ, .v (.bool (stepB p s x)), _, _, he, Env.agree.refl _ _, Nat.le_refl _, trivial, ?_, rfl, rfl, rfl⟩
    rw [look_upd]
    exact hW.modify hj trivial hm (by simp [SObj.sc, cellOf, Prm.cells, Ste.cells, SV.scs, SV.sc]) ⟨h3, hc⟩
  · obtain ⟨rfl, rfl, rfl⟩ := hp; exact h
end

/-! ### Tick -/
/-- The state, whether it fired, the error. -/
def tickV (p : Prm) (s : Ste) (x : Int) : Value :=
  if vld p s = 0 then .tuple #[.agg #[.int .i64 (stepS p s x).v, .int .i64 (stepS p s x).rest], .bool (stepB p s x), .int .i64 0]
  else .tuple #[.agg #[.int .i64 0, .int .i64 0], .bool false, .int .i64 (vld p s)]

theorem Tick_run (p : Prm) (s : Ste) (x : Int) (w : World) : Calls Try.prog 15 #[p.sv.conc env0, s.sv.conc env0, .int .i64 x] w fun e w' => e = .returned (tickV p s x) ∧ Ext w w' := by
  have hc : ∀ (q : Cx), q = ⟨Try.prog, tab, [], 15, Try.f15, [], w, [], none⟩ → q.ok := by
    rintro _ rfl
    exact ⟨tab_ok, trivial, Try.func15, mixed, fun _ h => by cases h⟩
  by_cases h : vld p s = 0
  · refine Run.start0 (tab := tab) (pf := []) (cuts := []) mixed tab_ok trivial Try.func15 rfl [p.sv, s.sv, ii x] 1000 (by simp [SV.scs, SV.sc, Prm.sv, Prm.cells, Ste.sv, Ste.cells]) rfl ?_
    conv => whnf
    refine Run.newCell p s h rfl rfl rfl rfl rfl rfl rfl rfl ?_
    refine Run.of_wpK (hc _ rfl) 1000 _ ?_
    conv => whnf
    refine Run.tick p s x _ (chk_known (vld_zero h).1) rfl rfl rfl rfl rfl rfl rfl rfl rfl ?_
    refine Run.of_wpK (hc _ rfl) 1000 _ ?_
    conv => whnf
    exact ⟨fun ρ w' hW _ => ⟨by rw [tickV, if_pos h]; rfl, hW.toExt⟩⟩
  · refine Run.start0 (tab := tab) (pf := []) (cuts := []) mixed tab_ok trivial Try.func15 rfl [p.sv, s.sv, ii x] 1000 (by simp [SV.scs, SV.sc, Prm.sv, Prm.cells, Ste.sv, Ste.cells]) rfl ?_
    conv => whnf
    refine Run.newCell_bad p s h rfl rfl rfl rfl rfl rfl rfl rfl ?_
    refine Run.of_wpK (hc _ rfl) 1000 _ ?_
    conv => whnf
    split
    · rename_i hn
      conv => whnf
      exact ⟨fun ρ w' hW _ => ⟨by rw [tickV, if_neg h]; rfl, hW.toExt⟩⟩
    · rename_i hn
      exact absurd (by simpa using hn) h

/-! ### Leak -/
def leakV (p : Prm) (v : Int) : Value :=
  if chk p ≠ 0 then .tuple #[.int .i64 0, .int .i64 (chk p)] else if wi v (-1048576) 1048576 then .tuple #[.int .i64 (leakW p.lk p.leak v), .int .i64 0] else .tuple #[.int .i64 0, .int .i64 3]

abbrev pf5 : PF := (24, FP fun p => .int .i64 (chk p)) :: pf4
theorem pf5_ok : PF.oks Try.prog pf5 := ⟨check_pure, pf4_ok⟩

theorem Leak_run (p : Prm) (v : Int) (w : World) : Calls Try.prog 22 #[p.sv.conc env0, .int .i64 v] w fun e w' => e = .returned (leakV p v) ∧ Ext w w' := by
  by_cases h0 : chk p = 0
  · have hk := chk_known h0
    obtain ⟨lk, leak, bias, thr, rk, reset, floor, rest⟩ := p
    rcases hk with hk | hk | hk
    all_goals
      simp only at hk
      subst hk
      refine Run.start0 (tab := tab) (pf := pf5) (cuts := []) mixed tab_ok pf5_ok Try.func22 rfl [.agg [ii _, ii leak, ii bias, ii thr, ii rk, ii reset, ii floor, ii rest], ii v] 1000 (by simp [SV.scs, SV.sc]) rfl ?_
      conv => whnf
      split
      · rename_i hn
        simp [h0] at hn
      · conv => whnf
        cases h1 : wi v (-1048576) 1048576
        · conv => whnf
          exact ⟨fun ρ w' hW _ => ⟨by rw [leakV, if_neg (fun h : chk _ ≠ 0 => h h0), if_neg (fun h => absurd (h1.symm.trans h) (by decide))]; rfl, hW.toExt⟩⟩
        · conv => whnf
          exact ⟨fun ρ w' hW _ => ⟨by rw [leakV, if_neg (fun h : chk _ ≠ 0 => h h0), if_pos h1]; rfl, hW.toExt⟩⟩
  · obtain ⟨lk, leak, bias, thr, rk, reset, floor, rest⟩ := p
    refine Run.start0 (tab := tab) (pf := pf5) (cuts := []) mixed tab_ok pf5_ok Try.func22 rfl [.agg [ii lk, ii leak, ii bias, ii thr, ii rk, ii reset, ii floor, ii rest], ii v] 1000 (by simp [SV.scs, SV.sc]) rfl ?_
    conv => whnf
    split
    · conv => whnf
      exact ⟨fun ρ w' hW _ => ⟨by rw [leakV, if_pos h0]; rfl, hW.toExt⟩⟩
    · rename_i hn
      exact absurd (by simpa using hn) h0
end Go.Proofs.Ytoipnojibkjjnaa
