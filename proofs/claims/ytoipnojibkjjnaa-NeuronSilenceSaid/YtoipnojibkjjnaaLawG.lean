/-
  Walk of the statement 'NeuronSilence': it returns true.
  For every input; the world only gets new blocks.
-/
import Derived.Test.YtoipnojibkjjnaaLawF
import Derived.Test.YtoipnojibkjjnaaLawC
import Derived.Test.YtoipnojibkjjnaaPlainD
namespace Go.Proofs.Ytoipnojibkjjnaa
open Go.Sx
set_option maxRecDepth 100000

theorem silR_ok {p : Prm} {s : Ste} (h : vld p s = 0) (n : Nat) (hn : n ≤ 10000) : silR p s (n : Int) = (outs p s 0 (List.replicate n 0), nth p s n, 0) := by
  rw [silR, if_pos h, if_pos (by simp [wi]; omega), Int.toNat_natCast, steps_rep]
theorem nth_add (p : Prm) (s : Ste) (n : Nat) : ∀ m, nth p (nth p s n) m = nth p s (n + m)
  | 0 => rfl
  | m + 1 => by rw [nth, nth_add p s n m]; rfl

theorem neuronSilence_walk (w : World) (p : Prm) (_ : p.fits) (s : Ste) (_ : s.fits) (a : Int) (ha : 0 ≤ a ∧ a ≤ 65535) (b : Int) (hb : 0 ≤ b ∧ b ≤ 65535) :
    Calls Try.prog 9 #[p.sv.conc env0, s.sv.conc env0, .int .u16 a, .int .u16 b] w fun e w' => e = .returned (.bool true) ∧ Ext w w' := by
  obtain ⟨vd, hvd⟩ : ∃ vd : Prm → Ste → Int, vld = vd := ⟨vld, rfl⟩
  have hpf : PF.oks Try.prog ((21, FPS fun p s => .int .i64 (vd p s)) :: pfW) := by rw [← hvd]; exact ⟨valid_pure, pfW_ok⟩
  have hc : ∀ (q : Cx), q = ⟨Try.prog, tab, (21, FPS fun p s => .int .i64 (vd p s)) :: pfW, 9, Try.f9, [], w, [], none⟩ → q.ok := by
    rintro _ rfl
    exact ⟨tab_ok, hpf, Try.func9, mixed, fun _ h => by cases h⟩
  obtain ⟨n, hn, hn2⟩ : ∃ n : Nat, a.tmod 2001 = (n : Int) ∧ n ≤ 2000 := by
    rw [Int.tmod_eq_emod_of_nonneg ha.1]
    exact ⟨(a % 2001).toNat, by omega, by omega⟩
  obtain ⟨m, hm, hm2⟩ : ∃ m : Nat, b.tmod 2001 = (m : Int) ∧ m ≤ 2000 := by
    rw [Int.tmod_eq_emod_of_nonneg hb.1]
    exact ⟨(b % 2001).toNat, by omega, by omega⟩
  have wn : IntKind.i64.wrap (n : Int) = (n : Int) := W_id (by omega) (by omega)
  have wm : IntKind.i64.wrap (m : Int) = (m : Int) := W_id (by omega) (by omega)
  have wnm : IntKind.i64.wrap ((n : Int) + (m : Int)) = ((n + m : Nat) : Int) := by
    have := W_id (a := (n : Int) + (m : Int)) (by omega) (by omega)
    simp only [W] at this
    rw [this]; omega
  refine Run.start0 (tab := tab) (pf := (21, FPS fun p s => .int .i64 (vd p s)) :: pfW) (cuts := []) mixed tab_ok hpf Try.func9 rfl [p.sv, s.sv, .v (.int .u16 a), .v (.int .u16 b)] 1000 (by simp [SV.scs, SV.sc, Prm.sv, Prm.cells, Ste.sv, Ste.cells]) rfl ?_
  conv => whnf
  rw [hn]
  refine ⟨by decide, ?_⟩
  conv => whnf
  rw [hm]
  refine ⟨by decide, ?_⟩
  conv => whnf
  cases hv : vd ⟨p.lk, p.leak, p.bias, p.thr, p.rk, p.reset, p.floor, p.rest⟩ ⟨s.v, s.rest⟩ != 0
  · have hv0 : vld p s = 0 := by rw [hvd]; simpa using hv
    obtain ⟨N, hN, hnx⟩ := next_exists hv0
    have hS1 := fun w1 => Silent_run p s (n : Int) w1
    have hS2 := fun w1 => Silent_run p (nth p s n) (m : Int) w1
    have hS3 := fun w1 => Silent_run p s ((n + m : Nat) : Int) w1
    have hNx := fun w1 => Next_run p s w1 hv0 N hnx hN
    obtain ⟨f1, f2, f3⟩ := next_first hnx (n + m)
    have hq : p.bias = 0 → s.v < p.thr → nextV p s N = -1 ∧ (nth p s (n + m)).v ≤ max s.v (-s.v) ∧ -(nth p s (n + m)).v ≤ max s.v (-s.v) := fun h1 h2 => by
      have hqu := quiet hv0 h1 h2
      exact ⟨by rw [nextV, (hqu N).1]; rfl, (hqu (n + m)).2.2⟩
    have hVb : -1048576 ≤ (nth p s (n + m)).v ∧ (nth p s (n + m)).v ≤ 1048576 ∧ -1048576 ≤ s.v ∧ s.v ≤ 1048576 := by
      obtain ⟨hg, q1, _⟩ := vld_good.1 (vld_nth hv0 (n + m))
      obtain ⟨_, q2, _⟩ := vld_good.1 hv0
      have := hg.floor
      omega
    have hZ : outs p s 0 (List.replicate (n + m) 0) = outs p s 0 (List.replicate n 0) ++ (outs p (nth p s n) 0 (List.replicate m 0)).map fun t => (n : Int) + t := by
      rw [rep_add, outs_append, List.length_replicate, steps_rep, Nat.zero_add]
      have := outs_from p (List.replicate m 0) (nth p s n) n 0
      rw [Nat.add_zero] at this
      rw [this]
    have hXl := outs_length p (List.replicate n 0) s 0
    have hYl := outs_length p (List.replicate m 0) (nth p s n) 0
    have hYr : ∀ t ∈ outs p (nth p s n) 0 (List.replicate m 0), 0 ≤ t ∧ t < 2000 := fun t ht => by
      have := outs_ge p _ _ _ t ht
      rw [List.length_replicate] at this
      omega
    rw [List.length_replicate] at hXl hYl
    rw [silR_ok hv0 n (by omega)] at hS1
    rw [silR_ok (vld_nth hv0 n) m (by omega), nth_add] at hS2
    rw [silR_ok hv0 (n + m) (by omega)] at hS3
    generalize outs p s 0 (List.replicate n 0) = X at *
    generalize outs p (nth p s n) 0 (List.replicate m 0) = Y at *
    generalize outs p s 0 (List.replicate (n + m) 0) = Z at *
    generalize nth p s (n + m) = V at *
    generalize nth p s n = U at *
    generalize nextV p s N = nx at *
    have hZl : Z.length = X.length + Y.length := by rw [hZ]; simp
    have wXY : IntKind.i64.wrap ((X.length : Int) + (Y.length : Int)) = (Z.length : Int) := by
      have := W_id (a := (X.length : Int) + (Y.length : Int)) (by omega) (by omega)
      simp only [W] at this
      rw [this]; omega
    conv => whnf
    rw [wn, wm]
    refine Run.post (vs := [p.sv, s.sv, ii (n : Int)]) (caps := []) (X, U, 0) rfl (fun ρ w1 hW => hS1 w1) (ent _ _ Try.func27 (by kernel_rfl) rfl) rfl rfl rfl rfl rfl rfl rfl ?_
    refine Run.of_wpK (hc _ rfl) 1000 _ ?_
    conv => whnf
    refine Run.post (vs := [p.sv, U.sv, ii (m : Int)]) (caps := []) (Y, V, 0) rfl (fun ρ w1 hW => hS2 w1) (ent _ _ Try.func27 (by kernel_rfl) rfl) rfl rfl rfl rfl rfl rfl rfl ?_
    refine Run.of_wpK (hc _ rfl) 1000 _ ?_
    conv => whnf
    rw [wnm]
    refine Run.post (vs := [p.sv, s.sv, ii ((n + m : Nat) : Int)]) (caps := []) (Z, V, 0) rfl (fun ρ w1 hW => hS3 w1) (ent _ _ Try.func27 (by kernel_rfl) rfl) rfl rfl rfl rfl rfl rfl rfl ?_
    refine Run.of_wpK (hc _ rfl) 1000 _ ?_
    conv => whnf
    refine Run.callE (g := 29) (vs := [p.sv, s.sv]) (caps := []) (.tup [ii nx, ii 0]) (fun ρ w _ => (hNx w).mono fun _ w' ⟨he, hx⟩ => ⟨by rw [he]; rfl, hx⟩) (ent _ _ Try.func29 (by kernel_rfl) rfl) rfl rfl rfl rfl rfl rfl rfl ⟨trivial, trivial, trivial⟩ ?_
    refine Run.of_wpK (hc _ rfl) 1000 _ ?_
    conv => whnf
    rw [show (V.v == V.v && (V.rest == V.rest && true)) = true by simp]
    conv => whnf
    rw [wXY]
    rw [show ((Z.length : Int) != (Z.length : Int)) = false by simp]
    conv => whnf
    refine Run.trim (T' := [(4, .ptr 0 0), (5, .ptr 1 0), (9, ii (n : Int)), (10, ii (m : Int)), (13, .opq 2), (16, .opq 4), (19, .opq 6), (20, .ptr 7 0), (22, ii nx), (24, ii 0)]) (M' := [(0, .cells p.cells 23), (1, .cells s.cells 25), (2, .row 1 X.length (X.map fun x => .v (.int .i64 x)) 3), (4, .row 1 Y.length (Y.map fun x => .v (.int .i64 x)) 3), (6, .row 1 Z.length (Z.map fun x => .v (.int .i64 x)) 3), (7, .cells V.cells 25)]) 8 ⟨⟨rfl, by simp [SV.sc]⟩, ⟨rfl, by simp [SV.sc]⟩, ⟨rfl, trivial⟩, ⟨rfl, trivial⟩, ⟨rfl, by simp [SV.sc]⟩, ⟨rfl, by simp [SV.sc]⟩, ⟨rfl, by simp [SV.sc]⟩, ⟨rfl, by simp [SV.sc]⟩, ⟨rfl, trivial⟩, ⟨rfl, trivial⟩, trivial⟩ ⟨⟨rfl, by omega, by simp [SObj.sc, Prm.cells, SV.scs, SV.sc]⟩, ⟨rfl, by omega, by simp [SObj.sc, Ste.cells, SV.scs, SV.sc]⟩, ⟨rfl, by omega, scs_i _ _⟩, ⟨rfl, by omega, scs_i _ _⟩, ⟨rfl, by omega, scs_i _ _⟩, ⟨rfl, by omega, by simp [SObj.sc, Ste.cells, SV.scs, SV.sc]⟩, trivial⟩ (fun p hp => by cases hp) ?_
    refine Run.upTo (T := fun i => [(4, .ptr 0 0), (5, .ptr 1 0), (9, ii (n : Int)), (10, ii (m : Int)), (13, .opq 2), (16, .opq 4), (19, .opq 6), (20, .ptr 7 0), (22, ii nx), (24, ii (i : Int))]) (M := fun i => [(0, .cells p.cells 23), (1, .cells s.cells 25), (2, .row 1 X.length (X.map fun x => .v (.int .i64 x)) 3), (4, .row 1 Y.length (Y.map fun x => .v (.int .i64 x)) 3), (6, .row 1 Z.length (Z.map fun x => .v (.int .i64 x)) 3), (7, .cells V.cells 25)]) Z.length ?_ ?_
    · intro i hi ih
      refine Run.of_wpK (hc _ rfl) 1000 _ ?_
      conv => whnf
      split
      · conv => whnf
        refine Run.draw (hc _ rfl) 34 ?_
        rw [show upto 0 34 = upto 0 6 ++ (upto 6 3 ++ (upto 9 4 ++ (upto 13 4 ++ (upto 17 5 ++ (upto 22 3 ++ (upto 25 4 ++ upto 29 5)))))) from rfl]
        simp only [drawK_app]
        conv => whnf
        cases hx : decide ((i : Int) < (X.length : Int))
        · have hx := of_decide_eq_false hx
          have hj : i - X.length < Y.length := by omega
          have hwj : IntKind.i64.wrap ((i : Int) - (X.length : Int)) = ((i - X.length : Nat) : Int) := by
            have := W_id (a := (i : Int) - (X.length : Int)) (by omega) (by omega)
            simp only [W] at this
            rw [this]; omega
          have hyj := hYr Y[i - X.length] (List.getElem_mem hj)
          have hwy : IntKind.i64.wrap ((n : Int) + Y[i - X.length]) = (n : Int) + Y[i - X.length] := W_id (by omega) (by omega)
          have hzi : Z[i] = (n : Int) + Y[i - X.length] := by
            have h1 : Z[i]? = ((Y.map fun t => (n : Int) + t))[i - X.length]? := by rw [hZ, List.getElem?_append_right (by omega)]
            rw [List.getElem?_eq_getElem hi, List.getElem?_map, List.getElem?_eq_getElem hj] at h1
            exact Option.some.inj h1
          conv => whnf
          rw [decide_eq_true (show (X.length : Int) ≤ (i : Int) by omega)]
          conv => whnf
          refine ⟨⟨by omega, by omega⟩, ?_⟩
          conv => whnf
          rw [opF_load_at rfl rfl rfl rfl (get_row hi)]
          conv => whnf
          rw [hwj]
          refine ⟨⟨by omega, by omega⟩, ?_⟩
          conv => whnf
          rw [opF_load_at rfl rfl rfl rfl (get_row hj)]
          conv => whnf
          rw [hwy]
          refine ⟨by kernel_rfl, ?_⟩
          refine Run.of_wpK (hc _ rfl) 1000 _ ?_
          conv => whnf
          rw [show (Z[i] != (n : Int) + Y[i - X.length]) = false by rw [hzi]; simp]
          conv => whnf
          rw [wrap_succ (i := i) (by omega)]
          exact Run.trim (T' := [(4, .ptr 0 0), (5, .ptr 1 0), (9, ii (n : Int)), (10, ii (m : Int)), (13, .opq 2), (16, .opq 4), (19, .opq 6), (20, .ptr 7 0), (22, ii nx), (24, ii ((i + 1 : Nat) : Int))]) (M' := [(0, .cells p.cells 23), (1, .cells s.cells 25), (2, .row 1 X.length (X.map fun x => .v (.int .i64 x)) 3), (4, .row 1 Y.length (Y.map fun x => .v (.int .i64 x)) 3), (6, .row 1 Z.length (Z.map fun x => .v (.int .i64 x)) 3), (7, .cells V.cells 25)]) 8 ⟨⟨rfl, by simp [SV.sc]⟩, ⟨rfl, by simp [SV.sc]⟩, ⟨rfl, trivial⟩, ⟨rfl, trivial⟩, ⟨rfl, by simp [SV.sc]⟩, ⟨rfl, by simp [SV.sc]⟩, ⟨rfl, by simp [SV.sc]⟩, ⟨rfl, by simp [SV.sc]⟩, ⟨rfl, trivial⟩, ⟨rfl, trivial⟩, trivial⟩ ⟨⟨rfl, by omega, by simp [SObj.sc, Prm.cells, SV.scs, SV.sc]⟩, ⟨rfl, by omega, by simp [SObj.sc, Ste.cells, SV.scs, SV.sc]⟩, ⟨rfl, by omega, scs_i _ _⟩, ⟨rfl, by omega, scs_i _ _⟩, ⟨rfl, by omega, scs_i _ _⟩, ⟨rfl, by omega, by simp [SObj.sc, Ste.cells, SV.scs, SV.sc]⟩, trivial⟩ (fun p hp => by cases hp) ih
        · have hx := of_decide_eq_true hx
          have hlt : i < X.length := by omega
          have hzi : Z[i] = X[i] := by
            have h1 : Z[i]? = X[i]? := by rw [hZ, List.getElem?_append_left hlt]
            rw [List.getElem?_eq_getElem hi, List.getElem?_eq_getElem hlt] at h1
            exact Option.some.inj h1
          conv => whnf
          refine ⟨⟨by omega, by omega⟩, ?_⟩
          conv => whnf
          rw [opF_load_at rfl rfl rfl rfl (get_row hi)]
          conv => whnf
          refine ⟨⟨by omega, by omega⟩, ?_⟩
          conv => whnf
          rw [opF_load_at rfl rfl rfl rfl (get_row hlt)]
          conv => whnf
          rw [show (Z[i] != X[i]) = false by rw [hzi]; simp]
          conv => whnf
          rw [decide_eq_false (show ¬ (X.length : Int) ≤ (i : Int) by omega)]
          conv => whnf
          refine ⟨by kernel_rfl, ?_⟩
          refine Run.of_wpK (hc _ rfl) 1000 _ ?_
          conv => whnf
          rw [wrap_succ (i := i) (by omega)]
          exact Run.trim (T' := [(4, .ptr 0 0), (5, .ptr 1 0), (9, ii (n : Int)), (10, ii (m : Int)), (13, .opq 2), (16, .opq 4), (19, .opq 6), (20, .ptr 7 0), (22, ii nx), (24, ii ((i + 1 : Nat) : Int))]) (M' := [(0, .cells p.cells 23), (1, .cells s.cells 25), (2, .row 1 X.length (X.map fun x => .v (.int .i64 x)) 3), (4, .row 1 Y.length (Y.map fun x => .v (.int .i64 x)) 3), (6, .row 1 Z.length (Z.map fun x => .v (.int .i64 x)) 3), (7, .cells V.cells 25)]) 8 ⟨⟨rfl, by simp [SV.sc]⟩, ⟨rfl, by simp [SV.sc]⟩, ⟨rfl, trivial⟩, ⟨rfl, trivial⟩, ⟨rfl, by simp [SV.sc]⟩, ⟨rfl, by simp [SV.sc]⟩, ⟨rfl, by simp [SV.sc]⟩, ⟨rfl, by simp [SV.sc]⟩, ⟨rfl, trivial⟩, ⟨rfl, trivial⟩, trivial⟩ ⟨⟨rfl, by omega, by simp [SObj.sc, Prm.cells, SV.scs, SV.sc]⟩, ⟨rfl, by omega, by simp [SObj.sc, Ste.cells, SV.scs, SV.sc]⟩, ⟨rfl, by omega, scs_i _ _⟩, ⟨rfl, by omega, scs_i _ _⟩, ⟨rfl, by omega, scs_i _ _⟩, ⟨rfl, by omega, by simp [SObj.sc, Ste.cells, SV.scs, SV.sc]⟩, trivial⟩ (fun p hp => by cases hp) ih
      · rename_i hnn; have := of_decide_eq_false hnn; omega
    · refine Run.of_wpK (hc _ rfl) 1000 _ ?_
      conv => whnf
      split
      · rename_i hnn; have := of_decide_eq_true hnn; omega
      · conv => whnf
        cases hz : decide ((0 : Int) < (Z.length : Int))
        · have hz := of_decide_eq_false hz
          conv => whnf
          rw [show ((Z.length : Int) == 0) = true from beq_iff_eq.2 (by omega)]
          conv => whnf
          cases h0 : decide ((0 : Int) ≤ nx)
          · conv => whnf
            rw [decide_eq_false (show ¬ nx < -1 by omega)]
            conv => whnf
            cases hb0 : p.bias == 0
            · conv => whnf
              exact ⟨fun ρ w' hW _ => ⟨rfl, hW.toExt⟩⟩
            · have hb0 : p.bias = 0 := by simpa using hb0
              conv => whnf
              cases hv1 : decide (s.v < p.thr)
              · conv => whnf
                exact ⟨fun ρ w' hW _ => ⟨rfl, hW.toExt⟩⟩
              · have hv1 := of_decide_eq_true hv1
                obtain ⟨q1, q2, q3⟩ := hq hb0 hv1
                have w1 : IntKind.i64.wrap (-s.v) = -s.v := W_id (by omega) (by omega)
                have w2 : IntKind.i64.wrap (-V.v) = -V.v := W_id (by omega) (by omega)
                conv => whnf
                rw [show (nx != -1) = false by rw [q1]; rfl]
                conv => whnf
                rw [w1, decide_eq_false (show ¬ max s.v (-s.v) < V.v by omega)]
                conv => whnf
                rw [w1, w2, decide_eq_false (show ¬ max s.v (-s.v) < -V.v by omega)]
                conv => whnf
                exact ⟨fun ρ w' hW _ => ⟨rfl, hW.toExt⟩⟩
          · have h0 := of_decide_eq_true h0
            have hf2 := f2 (by omega)
            conv => whnf
            rw [wnm, decide_eq_false (show ¬ nx < ((n + m : Nat) : Int) by omega)]
            conv => whnf
            rw [decide_eq_false (show ¬ nx < -1 by omega)]
            conv => whnf
            cases hb0 : p.bias == 0
            · conv => whnf
              exact ⟨fun ρ w' hW _ => ⟨rfl, hW.toExt⟩⟩
            · have hb0 : p.bias = 0 := by simpa using hb0
              conv => whnf
              cases hv1 : decide (s.v < p.thr)
              · conv => whnf
                exact ⟨fun ρ w' hW _ => ⟨rfl, hW.toExt⟩⟩
              · have hv1 := of_decide_eq_true hv1
                obtain ⟨q1, q2, q3⟩ := hq hb0 hv1
                have w1 : IntKind.i64.wrap (-s.v) = -s.v := W_id (by omega) (by omega)
                have w2 : IntKind.i64.wrap (-V.v) = -V.v := W_id (by omega) (by omega)
                conv => whnf
                rw [show (nx != -1) = false by rw [q1]; rfl]
                conv => whnf
                rw [w1, decide_eq_false (show ¬ max s.v (-s.v) < V.v by omega)]
                conv => whnf
                rw [w1, w2, decide_eq_false (show ¬ max s.v (-s.v) < -V.v by omega)]
                conv => whnf
                exact ⟨fun ρ w' hW _ => ⟨rfl, hW.toExt⟩⟩
        · have hz := of_decide_eq_true hz
          have hz0 : 0 < Z.length := by omega
          have hf1 := f1 Z[0] (List.getElem?_eq_getElem hz0)
          conv => whnf
          refine ⟨⟨by omega, by omega⟩, ?_⟩
          conv => whnf
          rw [opF_load_at rfl rfl rfl rfl (get_row (j := 0) hz0)]
          conv => whnf
          rw [show (nx != Z[0]) = false by rw [hf1]; simp]
          conv => whnf
          rw [show ((Z.length : Int) == 0) = false by rw [beq_eq_false_iff_ne]; omega]
          conv => whnf
          rw [decide_eq_false (show ¬ nx < -1 by omega)]
          conv => whnf
          cases hb0 : p.bias == 0
          · conv => whnf
            exact ⟨fun ρ w' hW _ => ⟨rfl, hW.toExt⟩⟩
          · have hb0 : p.bias = 0 := by simpa using hb0
            conv => whnf
            cases hv1 : decide (s.v < p.thr)
            · conv => whnf
              exact ⟨fun ρ w' hW _ => ⟨rfl, hW.toExt⟩⟩
            · have hv1 := of_decide_eq_true hv1
              obtain ⟨q1, q2, q3⟩ := hq hb0 hv1
              have w1 : IntKind.i64.wrap (-s.v) = -s.v := W_id (by omega) (by omega)
              have w2 : IntKind.i64.wrap (-V.v) = -V.v := W_id (by omega) (by omega)
              conv => whnf
              rw [show (nx != -1) = false by rw [q1]; rfl]
              conv => whnf
              rw [w1, decide_eq_false (show ¬ max s.v (-s.v) < V.v by omega)]
              conv => whnf
              rw [w1, w2, decide_eq_false (show ¬ max s.v (-s.v) < -V.v by omega)]
              conv => whnf
              exact ⟨fun ρ w' hW _ => ⟨rfl, hW.toExt⟩⟩
  · have hv0 : ¬ vld p s = 0 := by rw [hvd]; simpa using hv
    conv => whnf
    refine Run.callE (g := 29) (vs := [p.sv, s.sv]) (caps := []) (.tup [ii 0, ii (vd p s)]) (fun ρ w _ => (Next_bad p s w hv0).mono fun _ w' ⟨he, hx⟩ => ⟨by rw [he, hvd]; rfl, hx⟩) (ent _ _ Try.func29 (by kernel_rfl) rfl) rfl rfl rfl rfl rfl rfl rfl ⟨trivial, trivial, trivial⟩ ?_
    refine Run.of_wpK (hc _ rfl) 1000 _ ?_
    conv => whnf
    rw [show (vd p s == vd ⟨p.lk, p.leak, p.bias, p.thr, p.rk, p.reset, p.floor, p.rest⟩ ⟨s.v, s.rest⟩) = true from beq_self_eq_true (vd p s)]
    conv => whnf
    exact ⟨fun ρ w' hW _ => ⟨rfl, hW.toExt⟩⟩
end Go.Proofs.Ytoipnojibkjjnaa
