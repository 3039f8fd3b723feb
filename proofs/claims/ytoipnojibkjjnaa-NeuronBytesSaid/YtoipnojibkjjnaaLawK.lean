/-
  Walk of the statement 'NeuronPacked': it returns true.
  For every input; the world only gets new blocks.
-/
import Derived.Test.YtoipnojibkjjnaaLawC
import Derived.Test.YtoipnojibkjjnaaPlainE
namespace Go.Proofs.Ytoipnojibkjjnaa
open Go.Sx
set_option maxRecDepth 100000

section
variable {c : Cx} {T : List (Nat × SV)} {M : List (Nat × SObj)} {n : Nat} {D : List Deferred} {ops : Array Oper} {i : Nat} {r : List Nat} {k : List Item} {R : Ending → World → Prop} {o : Oper} {f : Operand} {args : Array Operand} {ts : Array TypeId} {fv : SV}
/-- A call that returns bytes and an error. -/
theorem Run.postB (ns : List Int) (err : Int) {g : FuncId} {caps vs : List SV} (hP : c.P = Try.prog) (hcall : ∀ ρ w, WI c.w0 c.L ρ (Sx.look M) (· < n) w → Calls Try.prog g (SV.concs ρ (vs ++ caps)).toArray w (BytesPost ns err w)) (hg : Enters Try.prog g)
    (ho : get ops.toList i = some o) (hop : o.op = .call { callee := .value f, args := args, argTypes := ts }) (hw : wantS ops.toList (Sx.look T) o = some true) (hd : okD c.fn.ntmps o.dst = true)
    (hf : ev (Sx.look T) f = some fv) (hfv : calleeOf fv = some (g, caps)) (hvs : evs (Sx.look T) args.toList = some vs)
    (h : Run c ⟨putS T o.dst (.tup [.opq n, ii err]), (n, .row 1 ns.length (ns.map fun x => .v (.int .u8 x)) 5) :: M, n + 1, D, .inRegion ops r :: k⟩ R) : Run c ⟨T, M, n, D, .inRegion ops (i :: r) :: k⟩ R := by
  refine Run.callG ho hop hw hd hf hfv hvs (by rw [hP]; exact hg) (fun v M' n' => v = .tup [.opq n, ii err] ∧ M' = (n, .row 1 ns.length (ns.map fun x => .v (.int .u8 x)) 5) :: M ∧ n' = n + 1) (fun ρ w _ hW => ?_) (fun v M' n' hp => ?_)
  · rw [hP]
    refine (hcall ρ w hW).mono fun e w' ⟨l, he, hx, hr⟩ => ?_
    rw [← concs_u ρ] at hr
    obtain ⟨q1, q2⟩ := hW.rowTo (M1 := Sx.look M) (fun _ _ h => h) (i := n) (Nat.lt_irrefl n) (xs := ns.map fun x => .v (.int .u8 x)) (hx.grown none) (fun b hb => by cases hb) (fun g hg => .inr (hr.lt g hg).1) (ownsRow_mono hr (Nat.zero_le _)) (scs_u _ _)
    refine ⟨ρ.bindV n l, .tup [.opq n, ii err], _, _, ?_, q2, Nat.le_succ n, ⟨Nat.lt_succ_self n, trivial, trivial⟩, ?_, rfl, rfl, rfl⟩
    · rw [he]
      have := conc_bindV hr ρ n
      simp only [SV.conc, SV.concs] at this ⊢
      rw [this]
    · rw [look_upd]
      exact q1.mono fun q hq => by have hq : q < n ∨ q = n := hq; omega
  · obtain ⟨rfl, rfl, rfl⟩ := hp; exact h
end

theorem upR_cases (bs : List Int) : (bs.length < 17 ∧ upR bs = (Prm.zero, 19)) ∨ (17 < bs.length ∧ upR bs = (Prm.zero, 8)) ∨ (bs.length = 17 ∧ chk (upP bs) ≠ 0 ∧ upR bs = (Prm.zero, 7)) ∨ (bs.length = 17 ∧ chk (upP bs) = 0 ∧ upR bs = (upP bs, 0)) := by
  unfold upR
  by_cases h1 : bs.length < 17
  · exact .inl ⟨h1, if_pos h1⟩
  · rw [if_neg h1]
    by_cases h2 : 17 < bs.length
    · exact .inr (.inl ⟨h2, if_pos h2⟩)
    · rw [if_neg h2]
      by_cases h3 : chk (upP bs) = 0
      · exact .inr (.inr (.inr ⟨by omega, h3, if_pos h3⟩))
      · exact .inr (.inr (.inl ⟨by omega, h3, if_neg h3⟩))
theorem neuronPacked_walk (w : World) (p : Prm) (_ : p.fits) (v : Value) (bs : List Int) (hr : RowAt w v (bs.map fun x => .int .u8 x)) (hwf : ∀ n ∈ bs, (Lit.int .u8 n).wf = true) (_ : bs.length ≤ maxLen) :
    Calls Try.prog 11 #[p.sv.conc env0, v] w fun e w' => e = .returned (.bool true) ∧ Ext w w' := by
  have hby : ∀ b ∈ bs, Byte b := fun b hb => by     have := bounds_u8 (hwf b hb); unfold Byte; omega
  obtain ⟨ck, hck⟩ : ∃ ck : Prm → Int, chk = ck := ⟨chk, rfl⟩
  have hpf : PF.oks Try.prog ((24, FP fun p => .int .i64 (ck p)) :: pfW) := by rw [← hck]; exact ⟨check_pure, pfW_ok⟩
  have hc : ∀ (q : Cx), q = ⟨Try.prog, tab, (24, FP fun p => .int .i64 (ck p)) :: pfW, 11, Try.f11, [], w, [], none⟩ → q.ok := by
    rintro _ rfl
    exact ⟨tab_ok, hpf, Try.func11, mixed, fun _ h => by cases h⟩
  obtain ⟨pp, cap, rfl⟩ := hr.len
  rw [List.length_map] at hr ⊢
  refine Run.start0 (tab := tab) (pf := (24, FP fun p => .int .i64 (ck p)) :: pfW) (cuts := []) mixed tab_ok hpf Try.func11 rfl [p.sv, .v (.slice pp bs.length cap)] 1000 (by simp [SV.scs, SV.sc, Prm.sv, Prm.cells]) rfl ?_
  conv => whnf
  refine Run.postB (vs := [p.sv]) (caps := []) (packR p) (chk p) rfl (fun ρ w1 hW => Pack_run p w1) (ent _ _ Try.func31 (by kernel_rfl) rfl) rfl rfl rfl rfl rfl rfl rfl ?_
  refine Run.of_wpK (hc _ rfl) 1000 _ ?_
  conv => whnf
  by_cases h0 : chk p = 0
  · have hk0 : ck p = 0 := by rw [← hck]; exact h0
    have e1 : packR p = pk p := by unfold packR; rw [if_pos h0]
    rw [e1, h0]
    refine Run.callE (g := 33) (vs := [.opq (0 + 1)]) (caps := []) (.tup [p.sv, ii 0]) (fun ρ w1 hW => ?_) (ent _ _ Try.func33 (by kernel_rfl) rfl) rfl rfl rfl rfl rfl rfl rfl (by simp [SV.sc, SV.scs, Prm.sv, Prm.cells]) ?_
    · have h1 : RowAt w1 ((SV.opq (0 + 1)).conc ρ) (SV.concs ρ ((pk p).map fun x => .v (.int .u8 x))) := hW.rowAt (i := 0 + 1) rfl
      rw [concs_u] at h1
      have := Unpack_run _ _ w1 h1
      rw [upR_pk h0] at this
      exact this.mono fun _ w' ⟨he, hx⟩ => ⟨by rw [he]; rfl, hx⟩
    refine Run.of_wpK (hc _ rfl) 1000 _ ?_
    conv => whnf
    rw [show ck ⟨p.lk, p.leak, p.bias, p.thr, p.rk, p.reset, p.floor, p.rest⟩ = 0 from hk0]
    conv => whnf
    rw [show (p.lk == p.lk && (p.leak == p.leak && (p.bias == p.bias && (p.thr == p.thr && (p.rk == p.rk && (p.reset == p.reset && (p.floor == p.floor && (p.rest == p.rest && true)))))))) = true by simp]
    conv => whnf
    refine Run.trim (T' := [(42, .v (.slice pp bs.length cap)), (1, .v (.slice pp bs.length cap)), (7, .ptr 2 0)]) (M' := [(2, .cells p.cells 23)]) 3 ⟨⟨rfl, trivial⟩, ⟨rfl, trivial⟩, ⟨rfl, by simp [SV.sc]⟩, trivial⟩ ⟨⟨rfl, by omega, by simp [SObj.sc, Prm.cells, SV.scs, SV.sc]⟩, trivial⟩ (fun q hq => by cases hq) ?_
    rcases upR_cases bs with ⟨hl, hu⟩ | ⟨hl, hu⟩ | ⟨hl, hz, hu⟩ | ⟨hl, hz, hu⟩
    · refine Run.callE (g := 33) (vs := [.v (.slice pp bs.length cap)]) (caps := []) (.tup [Prm.zero.sv, ii 19]) (fun ρ w1 hW => ?_) (ent _ _ Try.func33 (by kernel_rfl) rfl) rfl rfl rfl rfl rfl rfl rfl (by simp [SV.sc, SV.scs, Prm.sv, Prm.cells]) ?_
      · have := Unpack_run _ _ w1 (hr.ext hW.toExt)
        rw [hu] at this
        exact this.mono fun _ w' ⟨he, hx⟩ => ⟨by rw [he]; rfl, hx⟩
      refine Run.of_wpK (hc _ rfl) 1000 _ ?_
      conv => whnf
      rw [beq_eq_false_iff_ne.2 (show ¬ (bs.length : Int) = 17 by omega)]
      conv => whnf
      rw [decide_eq_true (show (bs.length : Int) < 17 by omega)]
      conv => whnf
      exact ⟨fun ρ w' hW _ => ⟨rfl, hW.toExt⟩⟩
    · refine Run.callE (g := 33) (vs := [.v (.slice pp bs.length cap)]) (caps := []) (.tup [Prm.zero.sv, ii 8]) (fun ρ w1 hW => ?_) (ent _ _ Try.func33 (by kernel_rfl) rfl) rfl rfl rfl rfl rfl rfl rfl (by simp [SV.sc, SV.scs, Prm.sv, Prm.cells]) ?_
      · have := Unpack_run _ _ w1 (hr.ext hW.toExt)
        rw [hu] at this
        exact this.mono fun _ w' ⟨he, hx⟩ => ⟨by rw [he]; rfl, hx⟩
      refine Run.of_wpK (hc _ rfl) 1000 _ ?_
      conv => whnf
      rw [beq_eq_false_iff_ne.2 (show ¬ (bs.length : Int) = 17 by omega)]
      conv => whnf
      rw [decide_eq_false (show ¬ (bs.length : Int) < 17 by omega)]
      conv => whnf
      rw [decide_eq_true (show (17 : Int) < (bs.length : Int) by omega)]
      conv => whnf
      exact ⟨fun ρ w' hW _ => ⟨rfl, hW.toExt⟩⟩
    · refine Run.callE (g := 33) (vs := [.v (.slice pp bs.length cap)]) (caps := []) (.tup [Prm.zero.sv, ii 7]) (fun ρ w1 hW => ?_) (ent _ _ Try.func33 (by kernel_rfl) rfl) rfl rfl rfl rfl rfl rfl rfl (by simp [SV.sc, SV.scs, Prm.sv, Prm.cells]) ?_
      · have := Unpack_run _ _ w1 (hr.ext hW.toExt)
        rw [hu] at this
        exact this.mono fun _ w' ⟨he, hx⟩ => ⟨by rw [he]; rfl, hx⟩
      refine Run.of_wpK (hc _ rfl) 1000 _ ?_
      conv => whnf
      rw [show ((bs.length : Int) == 17) = true from beq_iff_eq.2 (by omega)]
      conv => whnf
      exact ⟨fun ρ w' hW _ => ⟨rfl, hW.toExt⟩⟩
    · refine Run.callE (g := 33) (vs := [.v (.slice pp bs.length cap)]) (caps := []) (.tup [(upP bs).sv, ii 0]) (fun ρ w1 hW => ?_) (ent _ _ Try.func33 (by kernel_rfl) rfl) rfl rfl rfl rfl rfl rfl rfl (by simp [SV.sc, SV.scs, Prm.sv, Prm.cells]) ?_
      · have := Unpack_run _ _ w1 (hr.ext hW.toExt)
        rw [hu] at this
        exact this.mono fun _ w' ⟨he, hx⟩ => ⟨by rw [he]; rfl, hx⟩
      refine Run.of_wpK (hc _ rfl) 1000 _ ?_
      conv => whnf
      refine Run.postB (vs := [(upP bs).sv]) (caps := []) bs 0 rfl (fun ρ w1 hW => ?_) (ent _ _ Try.func31 (by kernel_rfl) rfl) rfl rfl rfl rfl rfl rfl rfl ?_
      · have := Pack_run (upP bs) w1
        rw [show packR (upP bs) = bs by unfold packR; rw [if_pos hz, pk_upP hby hl], hz] at this
        exact this
      refine Run.of_wpK (hc _ rfl) 1000 _ ?_
      conv => whnf
      refine Run.toStr bs rfl rfl rfl rfl rfl rfl rfl rfl (fun ρ w1 hW => ?_) ?_
      · have h1 : RowAt w1 ((SV.opq 3).conc ρ) (SV.concs ρ (bs.map fun x => .v (.int .u8 x))) := hW.rowAt (i := 3) rfl
        rw [concs_u] at h1
        exact h1
      refine Run.of_wpK (hc _ rfl) 1000 _ ?_
      conv => whnf
      refine Run.toStr bs rfl rfl rfl rfl rfl rfl rfl rfl (fun ρ w1 hW => hr.ext hW.toExt) ?_
      refine Run.eqStr (a1 := strOf bs) (a2 := strOf bs) rfl rfl rfl rfl rfl rfl ?_
      rw [show ((strOf bs).toList == (strOf bs).toList) = true by simp]
      refine Run.of_wpK (hc _ rfl) 1000 _ ?_
      conv => whnf
      exact ⟨fun ρ w' hW _ => ⟨rfl, hW.toExt⟩⟩
  · have e1 : packR p = [] := by unfold packR; rw [if_neg h0]
    rw [e1, hck]
    refine Run.callE (g := 33) (vs := [.opq (0 + 1)]) (caps := []) (.tup [Prm.zero.sv, ii 19]) (fun ρ w1 hW => ?_) (ent _ _ Try.func33 (by kernel_rfl) rfl) rfl rfl rfl rfl rfl rfl rfl (by simp [SV.sc, SV.scs, Prm.sv, Prm.cells]) ?_
    · have h1 : RowAt w1 ((SV.opq (0 + 1)).conc ρ) (SV.concs ρ (([] : List Int).map fun x => .v (.int .u8 x))) := hW.rowAt (i := 0 + 1) rfl
      rw [concs_u] at h1
      exact (Unpack_run _ [] w1 h1).mono fun _ w' ⟨he, hx⟩ => ⟨by rw [he]; rfl, hx⟩
    refine Run.of_wpK (hc _ rfl) 1000 _ ?_
    conv => whnf
    rw [show ck ⟨p.lk, p.leak, p.bias, p.thr, p.rk, p.reset, p.floor, p.rest⟩ = ck p from rfl]
    rw [show (ck p != ck p) = false by simp]
    conv => whnf
    rw [show (ck p == 0) = false by rw [← hck]; simpa using h0]
    conv => whnf
    refine Run.trim (T' := [(42, .v (.slice pp bs.length cap)), (1, .v (.slice pp bs.length cap)), (7, .ptr 2 0)]) (M' := [(2, .cells Prm.zero.cells 23)]) 3 ⟨⟨rfl, trivial⟩, ⟨rfl, trivial⟩, ⟨rfl, by simp [SV.sc]⟩, trivial⟩ ⟨⟨rfl, by omega, by simp [SObj.sc, Prm.cells, SV.scs, SV.sc]⟩, trivial⟩ (fun q hq => by cases hq) ?_
    rcases upR_cases bs with ⟨hl, hu⟩ | ⟨hl, hu⟩ | ⟨hl, hz, hu⟩ | ⟨hl, hz, hu⟩
    · refine Run.callE (g := 33) (vs := [.v (.slice pp bs.length cap)]) (caps := []) (.tup [Prm.zero.sv, ii 19]) (fun ρ w1 hW => ?_) (ent _ _ Try.func33 (by kernel_rfl) rfl) rfl rfl rfl rfl rfl rfl rfl (by simp [SV.sc, SV.scs, Prm.sv, Prm.cells]) ?_
      · have := Unpack_run _ _ w1 (hr.ext hW.toExt)
        rw [hu] at this
        exact this.mono fun _ w' ⟨he, hx⟩ => ⟨by rw [he]; rfl, hx⟩
      refine Run.of_wpK (hc _ rfl) 1000 _ ?_
      conv => whnf
      rw [beq_eq_false_iff_ne.2 (show ¬ (bs.length : Int) = 17 by omega)]
      conv => whnf
      rw [decide_eq_true (show (bs.length : Int) < 17 by omega)]
      conv => whnf
      exact ⟨fun ρ w' hW _ => ⟨rfl, hW.toExt⟩⟩
    · refine Run.callE (g := 33) (vs := [.v (.slice pp bs.length cap)]) (caps := []) (.tup [Prm.zero.sv, ii 8]) (fun ρ w1 hW => ?_) (ent _ _ Try.func33 (by kernel_rfl) rfl) rfl rfl rfl rfl rfl rfl rfl (by simp [SV.sc, SV.scs, Prm.sv, Prm.cells]) ?_
      · have := Unpack_run _ _ w1 (hr.ext hW.toExt)
        rw [hu] at this
        exact this.mono fun _ w' ⟨he, hx⟩ => ⟨by rw [he]; rfl, hx⟩
      refine Run.of_wpK (hc _ rfl) 1000 _ ?_
      conv => whnf
      rw [beq_eq_false_iff_ne.2 (show ¬ (bs.length : Int) = 17 by omega)]
      conv => whnf
      rw [decide_eq_false (show ¬ (bs.length : Int) < 17 by omega)]
      conv => whnf
      rw [decide_eq_true (show (17 : Int) < (bs.length : Int) by omega)]
      conv => whnf
      exact ⟨fun ρ w' hW _ => ⟨rfl, hW.toExt⟩⟩
    · refine Run.callE (g := 33) (vs := [.v (.slice pp bs.length cap)]) (caps := []) (.tup [Prm.zero.sv, ii 7]) (fun ρ w1 hW => ?_) (ent _ _ Try.func33 (by kernel_rfl) rfl) rfl rfl rfl rfl rfl rfl rfl (by simp [SV.sc, SV.scs, Prm.sv, Prm.cells]) ?_
      · have := Unpack_run _ _ w1 (hr.ext hW.toExt)
        rw [hu] at this
        exact this.mono fun _ w' ⟨he, hx⟩ => ⟨by rw [he]; rfl, hx⟩
      refine Run.of_wpK (hc _ rfl) 1000 _ ?_
      conv => whnf
      rw [show ((bs.length : Int) == 17) = true from beq_iff_eq.2 (by omega)]
      conv => whnf
      exact ⟨fun ρ w' hW _ => ⟨rfl, hW.toExt⟩⟩
    · refine Run.callE (g := 33) (vs := [.v (.slice pp bs.length cap)]) (caps := []) (.tup [(upP bs).sv, ii 0]) (fun ρ w1 hW => ?_) (ent _ _ Try.func33 (by kernel_rfl) rfl) rfl rfl rfl rfl rfl rfl rfl (by simp [SV.sc, SV.scs, Prm.sv, Prm.cells]) ?_
      · have := Unpack_run _ _ w1 (hr.ext hW.toExt)
        rw [hu] at this
        exact this.mono fun _ w' ⟨he, hx⟩ => ⟨by rw [he]; rfl, hx⟩
      refine Run.of_wpK (hc _ rfl) 1000 _ ?_
      conv => whnf
      refine Run.postB (vs := [(upP bs).sv]) (caps := []) bs 0 rfl (fun ρ w1 hW => ?_) (ent _ _ Try.func31 (by kernel_rfl) rfl) rfl rfl rfl rfl rfl rfl rfl ?_
      · have := Pack_run (upP bs) w1
        rw [show packR (upP bs) = bs by unfold packR; rw [if_pos hz, pk_upP hby hl], hz] at this
        exact this
      refine Run.of_wpK (hc _ rfl) 1000 _ ?_
      conv => whnf
      refine Run.toStr bs rfl rfl rfl rfl rfl rfl rfl rfl (fun ρ w1 hW => ?_) ?_
      · have h1 : RowAt w1 ((SV.opq 3).conc ρ) (SV.concs ρ (bs.map fun x => .v (.int .u8 x))) := hW.rowAt (i := 3) rfl
        rw [concs_u] at h1
        exact h1
      refine Run.of_wpK (hc _ rfl) 1000 _ ?_
      conv => whnf
      refine Run.toStr bs rfl rfl rfl rfl rfl rfl rfl rfl (fun ρ w1 hW => hr.ext hW.toExt) ?_
      refine Run.eqStr (a1 := strOf bs) (a2 := strOf bs) rfl rfl rfl rfl rfl rfl ?_
      rw [show ((strOf bs).toList == (strOf bs).toList) = true by simp]
      refine Run.of_wpK (hc _ rfl) 1000 _ ?_
      conv => whnf
      exact ⟨fun ρ w' hW _ => ⟨rfl, hW.toExt⟩⟩
end Go.Proofs.Ytoipnojibkjjnaa
