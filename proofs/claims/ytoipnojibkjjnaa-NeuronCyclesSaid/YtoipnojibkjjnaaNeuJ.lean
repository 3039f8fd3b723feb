/-
  Walks of the functions of the statements' package: 'works': the examples hold.
  No condition; the world only gets new blocks.
-/
import Derived.Test.YtoipnojibkjjnaaNeuI
namespace Go.Proofs.Ytoipnojibkjjnaa
open Go.Sx
set_option maxRecDepth 100000

section
variable {c : Cx} {T : List (Nat × SV)} {M : List (Nat × SObj)} {n : Nat} {D : List Deferred} {ops : Array Oper} {i : Nat} {r : List Nat} {k : List Item} {R : Ending → World → Prop} {o : Oper} {f : Operand} {args : Array Operand} {ts : Array TypeId} {fv : SV}
/-- A call that returns spikes, a state and an error. -/
theorem Run.post (res : List Int × Ste × Int) {g : FuncId} {caps vs : List SV} (hP : c.P = Try.prog) (hcall : ∀ ρ w, WI c.w0 c.L ρ (Sx.look M) (· < n) w → Calls Try.prog g (SV.concs ρ (vs ++ caps)).toArray w (RunPost res w)) (hg : Enters Try.prog g)
    (ho : get ops.toList i = some o) (hop : o.op = .call { callee := .value f, args := args, argTypes := ts }) (hw : wantS ops.toList (Sx.look T) o = some true) (hd : okD c.fn.ntmps o.dst = true)
    (hf : ev (Sx.look T) f = some fv) (hfv : calleeOf fv = some (g, caps)) (hvs : evs (Sx.look T) args.toList = some vs)
    (h : Run c ⟨putS T o.dst (.tup [.opq n, .agg [ii res.2.1.v, ii res.2.1.rest], ii res.2.2]), (n, .row 1 res.1.length (res.1.map fun x => .v (.int .i64 x)) 3) :: M, n + 1, D, .inRegion ops r :: k⟩ R) : Run c ⟨T, M, n, D, .inRegion ops (i :: r) :: k⟩ R := by
  refine Run.callG ho hop hw hd hf hfv hvs (by rw [hP]; exact hg) (fun v M' n' => v = .tup [.opq n, .agg [ii res.2.1.v, ii res.2.1.rest], ii res.2.2] ∧ M' = (n, .row 1 res.1.length (res.1.map fun x => .v (.int .i64 x)) 3) :: M ∧ n' = n + 1) (fun ρ w _ hW => ?_) (fun v M' n' hp => ?_)
  · rw [hP]
    refine (hcall ρ w hW).mono fun e w' ⟨l, he, hx, hr⟩ => ?_
    rw [← concs_i ρ] at hr
    obtain ⟨q1, q2⟩ := hW.rowTo (M1 := Sx.look M) (fun _ _ h => h) (i := n) (Nat.lt_irrefl n) (xs := res.1.map fun x => .v (.int .i64 x)) (hx.grown none) (fun b hb => by cases hb) (fun g hg => .inr (hr.lt g hg).1) (ownsRow_mono hr (Nat.zero_le _)) (scs_i _ _)
    refine ⟨ρ.bindV n l, .tup [.opq n, .agg [ii res.2.1.v, ii res.2.1.rest], ii res.2.2], _, _, ?_, q2, Nat.le_succ n, ⟨Nat.lt_succ_self n, ⟨trivial, trivial, trivial⟩, trivial, trivial⟩, ?_, rfl, rfl, rfl⟩
    · rw [he]
      have := conc_bindV hr ρ n
      simp only [SV.conc, SV.concs] at this ⊢
      rw [this]
    · rw [look_upd]
      exact q1.mono fun q hq => by have hq : q < n ∨ q = n := hq; omega
  · obtain ⟨rfl, rfl, rfl⟩ := hp; exact h
end

abbrev pfA : PF := [(37, FC exA.sv), (38, FC exB.sv)]
theorem pfA_ok : PF.oks Try.prog pfA := ⟨A_pure, B_pure, trivial⟩

theorem runR_ex : runR exA ⟨0, 0⟩ [3, 3, 9, 4, 2, 2, 7] = ([1, 4, 6], ⟨0, 1⟩, 0) := by kernel_rfl
theorem next_ex : NextIs exB ⟨4, 1⟩ 1 := by
  refine ⟨fun i hi => ?_, .inl (by kernel_rfl)⟩
  obtain rfl : i = 0 := by omega
  exact ⟨by kernel_rfl, fun h => absurd (congrArg Ste.rest h) (by decide)⟩
theorem works_run (w : World) : Calls Try.prog 17 #[] w fun e w' => e = .returned (.bool true) ∧ Ext w w' := by
  have hc : ∀ (q : Cx), q = ⟨Try.prog, tab, pfA, 17, Try.f17, [], w, [], none⟩ → q.ok := by
    rintro _ rfl
    exact ⟨tab_ok, pfA_ok, Try.func17, mixed, fun _ h => by cases h⟩
  refine Run.start0 (tab := tab) (pf := pfA) (cuts := []) mixed tab_ok pfA_ok Try.func17 rfl [] 1000 (by simp [SV.scs]) rfl ?_
  conv => whnf
  refine Run.callE (g := 15) (vs := [exA.sv, (⟨3, 0⟩ : Ste).sv, ii 3]) (caps := []) (.tup [.agg [ii 0, ii 1], .v (.bool true), ii 0]) (fun ρ w _ => (Tick_run exA ⟨3, 0⟩ 3 w).mono fun e w' ⟨he, hx⟩ => ⟨by rw [he]; kernel_rfl, hx⟩) (ent _ _ Try.func15 (by kernel_rfl) rfl) rfl rfl rfl rfl rfl rfl rfl ⟨⟨trivial, trivial, trivial⟩, trivial, trivial, trivial⟩ ?_
  refine Run.of_wpK (hc _ rfl) 1000 _ ?_
  conv => whnf
  refine Run.post (vs := [exA.sv, (⟨0, 0⟩ : Ste).sv, .slc (0 + 1) 0 7 7]) (caps := []) ([1, 4, 6], ⟨0, 1⟩, 0) rfl (fun ρ w1 hW => ?_) (ent _ _ Try.func18 (by kernel_rfl) rfl) rfl rfl rfl rfl rfl rfl rfl ?_
  · have hr : RowAt w1 ((SV.slc (0 + 1) 0 7 7).conc ρ) (ints [3, 3, 9, 4, 2, 2, 7]) := hW.slcAt (i := 0 + 1) rfl
    have := Run_run exA ⟨0, 0⟩ _ [3, 3, 9, 4, 2, 2, 7] w1 hr
    rw [runR_ex] at this
    exact this
  refine Run.of_wpK (hc _ rfl) 1000 _ ?_
  conv => whnf
  refine Run.callE (g := 29) (vs := [exB.sv, (⟨4, 1⟩ : Ste).sv]) (caps := []) (.tup [ii 1, ii 0]) (fun ρ w _ => (Next_run exB ⟨4, 1⟩ w (by kernel_rfl) 1 next_ex (by decide)).mono fun e w' ⟨he, hx⟩ => ⟨by rw [he]; kernel_rfl, hx⟩) (ent _ _ Try.func29 (by kernel_rfl) rfl) rfl rfl rfl rfl rfl rfl rfl ⟨trivial, trivial, trivial⟩ ?_
  refine Run.of_wpK (hc _ rfl) 1000 _ ?_
  conv => whnf
  refine Run.callE (g := 20) (vs := [.opq (0 + 1 + 1), .slc (0 + 1 + 1 + 1 + 1) 0 3 3]) (caps := []) (.v (.bool true)) (fun ρ w1 hW => ?_) (ent _ _ Try.func20 (by kernel_rfl) rfl) rfl rfl rfl rfl rfl rfl rfl trivial ?_
  · have h1 : RowAt w1 ((SV.opq (0 + 1 + 1)).conc ρ) (SV.concs ρ ([1, 4, 6].map fun x => .v (.int .i64 x))) := hW.rowAt (i := 0 + 1 + 1) rfl
    have h2 : RowAt w1 ((SV.slc (0 + 1 + 1 + 1 + 1) 0 3 3).conc ρ) (ints [1, 4, 6]) := hW.slcAt (i := 0 + 1 + 1 + 1 + 1) rfl
    rw [concs_i] at h1
    exact equal_run _ _ [1, 4, 6] [1, 4, 6] w1 h1 h2 (by decide)
  refine Run.of_wpK (hc _ rfl) 1000 _ ?_
  conv => whnf
  exact ⟨fun ρ w' hW _ => ⟨rfl, hW.toExt⟩⟩
end Go.Proofs.Ytoipnojibkjjnaa
