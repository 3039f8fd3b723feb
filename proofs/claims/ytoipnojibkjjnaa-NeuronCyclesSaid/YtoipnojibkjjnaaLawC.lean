/-
  Walk of the statement 'NeuronStates': it returns true.
  For every input; the world only gets new blocks.
-/
import Derived.Test.YtoipnojibkjjnaaLawB
import Derived.Test.YtoipnojibkjjnaaPlainC
import Derived.Test.YtoipnojibkjjnaaSxT
namespace Go.Proofs.Ytoipnojibkjjnaa
open Go.Sx
set_option maxRecDepth 100000

theorem WI.winAt {w0 w : World} {L : List (Nat × Nat)} {ρ : Env} {M : Mem} {S : Nat → Prop} (hW : WI w0 L ρ M S w) {i cap : Nat} {vs : List Value} (hi : M i = some (.win vs)) : RowAt w ((SV.slc i 0 vs.length cap).conc ρ) vs := by
  refine .inr ⟨ρ.s i, ρ.o i + 0, cap, rfl, fun j x hx => ?_⟩
  exact hW.winCell hi (by rw [get_eq]; exact hx)
theorem get_row {l : List Int} {j : Nat} (h : j < l.length) : Sx.get (l.map fun x => SV.v (.int .i64 x)) (idx (j : Int) 1) = some (.v (.int .i64 l[j])) := by
  show Sx.get _ ((j : Int)).toNat = _
  rw [Int.toNat_natCast, get_eq, List.getElem?_map, List.getElem?_eq_getElem h]; rfl
/-- A tick, as a function of plain values. -/
def tkS (p : Prm) (s : Ste) (x : Int) : Ste := if vld p s = 0 then stepS p s x else ⟨0, 0⟩
def tkB (p : Prm) (s : Ste) (x : Int) : Bool := if vld p s = 0 then stepB p s x else false
def tkSV (ts : Prm → Ste → Int → Ste) (tb : Prm → Ste → Int → Bool) (vd : Prm → Ste → Int) (p : Prm) (s : Ste) (x : Int) : SV := .tup [.agg [ii (ts p s x).v, ii (ts p s x).rest], .v (.bool (tb p s x)), ii (vd p s)]
theorem Tick_pure : Pure Try.prog 15 (FPSI (tkSV tkS tkB vld)) := Pure.ofPSI (ent _ _ Try.func15 (by kernel_rfl) rfl) (fun _ _ _ _ => by simp [tkSV, SV.sc, SV.scs]) (fun _ _ _ _ => rfl) (fun p s x w => (Tick_run p s x w).mono fun e w' ⟨he, hx⟩ => ⟨by
  rw [he]
  unfold tickV
  split
  · rename_i h
    simp only [tkSV, SV.conc, SV.concs, tkS, tkB, h, if_true]
  · rename_i h
    simp only [tkSV, SV.conc, SV.concs, tkS, tkB, h, if_false], hx⟩)

theorem neuronStates_walk (w : World) (p : Prm) (_ : p.fits) (s : Ste) (_ : s.fits) (v : Value) (xs : List Int) (hr : RowAt w v (ints xs)) (_ : ∀ n ∈ xs, (Lit.int .i64 n).wf = true) (_ : xs.length ≤ maxLen) :
    Calls Try.prog 5 #[p.sv.conc env0, s.sv.conc env0, v] w fun e w' => e = .returned (.bool true) ∧ Ext w w' := by
  obtain ⟨vd, hvd⟩ : ∃ vd : Prm → Ste → Int, vld = vd := ⟨vld, rfl⟩
  obtain ⟨ts, hts⟩ : ∃ ts : Prm → Ste → Int → Ste, tkS = ts := ⟨tkS, rfl⟩
  obtain ⟨tb, htb⟩ : ∃ tb : Prm → Ste → Int → Bool, tkB = tb := ⟨tkB, rfl⟩
  have hpf : PF.oks Try.prog ((21, FPS fun p s => .int .i64 (vd p s)) :: (15, FPSI (tkSV ts tb vd)) :: pfW) := by rw [← hvd, ← hts, ← htb]; exact ⟨valid_pure, Tick_pure, pfW_ok⟩
  have hc : ∀ (q : Cx), q = ⟨Try.prog, tab, (21, FPS fun p s => .int .i64 (vd p s)) :: (15, FPSI (tkSV ts tb vd)) :: pfW, 5, Try.f5, [], w, [], none⟩ → q.ok := by
    rintro _ rfl
    exact ⟨tab_ok, hpf, Try.func5, mixed, fun _ h => by cases h⟩
  have hrun : vld p s = 0 → xs.length ≤ 10000 → runR p s xs = (outs p s 0 xs, steps p s xs, 0) := fun h1 h2 => by rw [runR, if_pos h1, if_pos h2]
  by_cases hx0 : xs = []
  · subst hx0
    obtain ⟨pp, cap, rfl⟩ := hr.len
    refine Run.start0 (tab := tab) (pf := (21, FPS fun p s => .int .i64 (vd p s)) :: (15, FPSI (tkSV ts tb vd)) :: pfW) (cuts := []) mixed tab_ok hpf Try.func5 rfl [p.sv, s.sv, .v (.slice pp 0 cap)] 1000 (by simp [SV.scs, SV.sc, Prm.sv, Prm.cells, Ste.sv, Ste.cells]) rfl ?_
    conv => whnf
    cases hv : vd ⟨p.lk, p.leak, p.bias, p.thr, p.rk, p.reset, p.floor, p.rest⟩ ⟨s.v, s.rest⟩ != 0
    · have hv0 : vld p s = 0 := by rw [hvd]; simpa using hv
      have hvd0 : vd p s = 0 := by simpa using hv
      conv => whnf
      refine Run.post (vs := [p.sv, s.sv, .v (.slice pp 0 cap)]) (caps := []) ([], s, 0) rfl (fun ρ w1 hW => ?_) (ent _ _ Try.func18 (by kernel_rfl) rfl) rfl rfl rfl rfl rfl rfl rfl ?_
      · have := Run_run p s (.slice pp 0 cap) [] w1 (hr.ext hW.toExt)
        rw [hrun hv0 (by simp)] at this
        exact this
      refine Run.of_wpK (hc _ rfl) 1000 _ ?_
      conv => whnf
      rw [show (vd ⟨p.lk, p.leak, p.bias, p.thr, p.rk, p.reset, p.floor, p.rest⟩ ⟨(([], s, 0) : List Int × Ste × Int).2.1.v, (([], s, 0) : List Int × Ste × Int).2.1.rest⟩ != 0) = false from hv]
      conv => whnf
      refine Run.of_wpK (hc _ rfl) 1000 _ ?_
      conv => whnf
      rw [show (s.v == s.v && (s.rest == s.rest && true)) = true by simp]
      conv => whnf
      exact ⟨fun ρ w' hW _ => ⟨rfl, hW.toExt⟩⟩
    · conv => whnf
      exact ⟨fun ρ w' hW _ => ⟨rfl, hW.toExt⟩⟩
  · have hb := fun k => hr.blk (by simpa [ints] using hx0) (k := k)
    rcases hr with ⟨_, h⟩ | ⟨blk, off, cap, rfl, h1⟩
    · exact absurd h (by simpa [ints] using hx0)
    have hW0 := one_start (hb blk rfl) h1
    rw [ints_length]
    have ha : #[p.sv.conc env0, s.sv.conc env0, .slice (some ⟨blk, off, none⟩) xs.length cap] = (SV.concs (env2 blk off blk off) [p.sv, s.sv, .slc 0 0 xs.length cap]).toArray := by simp [SV.concs, SV.conc, env2, Prm.sv, Prm.cells, Ste.sv, Ste.cells]
    rw [ha]
    refine Run.calls (tab := tab) (pf := (21, FPS fun p s => .int .i64 (vd p s)) :: (15, FPSI (tkSV ts tb vd)) :: pfW) (cuts := []) Try.func5 rfl (env2 blk off blk off) [p.sv, s.sv, .slc 0 0 xs.length cap] _ 1 (by simp [SV.scs, SV.sc, Prm.sv, Prm.cells, Ste.sv, Ste.cells]) rfl hW0 (Run.of_wpK (hc _ rfl) 2000 _ ?_)
    conv => whnf
    cases hl : decide ((2000 : Int) < (xs.length : Int))
    · have hl := of_decide_eq_false hl
      conv => whnf
      cases hv : vd ⟨p.lk, p.leak, p.bias, p.thr, p.rk, p.reset, p.floor, p.rest⟩ ⟨s.v, s.rest⟩ != 0
      · have hv0 : vld p s = 0 := by rw [hvd]; simpa using hv
        conv => whnf
        refine Run.post (vs := [p.sv, s.sv, .slc 0 0 xs.length cap]) (caps := []) (outs p s 0 xs, steps p s xs, 0) rfl (fun ρ w1 hW => ?_) (ent _ _ Try.func18 (by kernel_rfl) rfl) rfl rfl rfl rfl rfl rfl rfl ?_
        · have hrow := WI.winAt hW (i := 0) (cap := cap) rfl
          rw [ints_length] at hrow
          have := Run_run p s _ xs w1 hrow
          rw [hrun hv0 (by omega)] at this
          exact this
        refine Run.of_wpK (hc _ rfl) 1000 _ ?_
        conv => whnf
        have hve : ∀ i, vd ⟨p.lk, p.leak, p.bias, p.thr, p.rk, p.reset, p.floor, p.rest⟩ ⟨(steps p s (xs.take i)).v, (steps p s (xs.take i)).rest⟩ = 0 := fun i => by
          have := vld_steps (xs := xs.take i) hv0
          rw [hvd] at this; exact this
        have hve0 : vd ⟨p.lk, p.leak, p.bias, p.thr, p.rk, p.reset, p.floor, p.rest⟩ ⟨(steps p s xs).v, (steps p s xs).rest⟩ = 0 := by
          have := hve xs.length
          rw [List.take_length] at this; exact this
        have hq : (vd ⟨p.lk, p.leak, p.bias, p.thr, p.rk, p.reset, p.floor, p.rest⟩ ⟨(steps p s xs).v, (steps p s xs).rest⟩ != 0) = false := by rw [hve0]; rfl
        rw [show (vd ⟨p.lk, p.leak, p.bias, p.thr, p.rk, p.reset, p.floor, p.rest⟩ ⟨((outs p s 0 xs, steps p s xs, 0) : List Int × Ste × Int).2.1.v, ((outs p s 0 xs, steps p s xs, 0) : List Int × Ste × Int).2.1.rest⟩ != 0) = false from hq]
        conv => whnf
        refine Run.trim (T' := [(2, .slc 0 0 xs.length cap), (3, .ptr 1 0), (4, .ptr 2 0), (7, .opq 3), (8, .ptr 4 0), (10, ii ((outs p s 0 (xs.take 0)).length : Int)), (11, ii 0)]) (M' := [(0, .win (ints xs)), (1, .cells p.cells 23), (2, .cells (steps p s (xs.take 0)).cells 25), (3, .row 1 (outs p s 0 xs).length ((outs p s 0 xs).map fun x => .v (.int .i64 x)) 3), (4, .cells (steps p s xs).cells 25)]) 5 ⟨⟨rfl, by simp [SV.sc]⟩, ⟨rfl, by simp [SV.sc]⟩, ⟨rfl, by simp [SV.sc]⟩, ⟨rfl, by simp [SV.sc]⟩, ⟨rfl, by simp [SV.sc]⟩, ⟨rfl, trivial⟩, ⟨rfl, trivial⟩, trivial⟩ ⟨⟨rfl, by omega, trivial⟩, ⟨rfl, by omega, by simp [SObj.sc, Prm.cells, SV.scs, SV.sc]⟩, ⟨rfl, by omega, by simp [SObj.sc, Ste.cells, SV.scs, SV.sc]⟩, ⟨rfl, by omega, scs_i _ _⟩, ⟨rfl, by omega, by simp [SObj.sc, Ste.cells, SV.scs, SV.sc]⟩, trivial⟩ (fun p hp => by cases hp) ?_
        refine Run.upTo (T := fun i => [(2, .slc 0 0 xs.length cap), (3, .ptr 1 0), (4, .ptr 2 0), (7, .opq 3), (8, .ptr 4 0), (10, ii ((outs p s 0 (xs.take i)).length : Int)), (11, ii (i : Int))]) (M := fun i => [(0, .win (ints xs)), (1, .cells p.cells 23), (2, .cells (steps p s (xs.take i)).cells 25), (3, .row 1 (outs p s 0 xs).length ((outs p s 0 xs).map fun x => .v (.int .i64 x)) 3), (4, .cells (steps p s xs).cells 25)]) xs.length ?_ ?_
        · intro i hi ih
          have hst := vld_steps (xs := xs.take i) hv0
          have hs1 := vld_step hst xs[i]
          obtain ⟨oa1, oa2⟩ := outs_at p s xs hi
          have hx : xs[i]? = some xs[i] := List.getElem?_eq_getElem hi
          have e1 := steps_snoc p xs[i] (xs.take i) s
          have e2 := outs_snoc p xs[i] (xs.take i) s 0
          have hli : (xs.take i).length = i := by simp; omega
          have hlo := outs_length p (xs.take i) s 0
          rw [← take_snoc hx] at e1 e2
          rw [hli, Nat.zero_add] at e2
          have ets : ts ⟨p.lk, p.leak, p.bias, p.thr, p.rk, p.reset, p.floor, p.rest⟩ ⟨(steps p s (xs.take i)).v, (steps p s (xs.take i)).rest⟩ xs[i] = stepS p (steps p s (xs.take i)) xs[i] := by rw [← hts]; show tkS p (steps p s (xs.take i)) xs[i] = _; rw [tkS, if_pos hst]
          have etb : tb ⟨p.lk, p.leak, p.bias, p.thr, p.rk, p.reset, p.floor, p.rest⟩ ⟨(steps p s (xs.take i)).v, (steps p s (xs.take i)).rest⟩ xs[i] = stepB p (steps p s (xs.take i)) xs[i] := by rw [← htb]; show tkB p (steps p s (xs.take i)) xs[i] = _; rw [tkB, if_pos hst]
          have evd : vd ⟨p.lk, p.leak, p.bias, p.thr, p.rk, p.reset, p.floor, p.rest⟩ ⟨(steps p s (xs.take i)).v, (steps p s (xs.take i)).rest⟩ = 0 := hve i
          have evs1 : vd ⟨p.lk, p.leak, p.bias, p.thr, p.rk, p.reset, p.floor, p.rest⟩ ⟨(stepS p (steps p s (xs.take i)) xs[i]).v, (stepS p (steps p s (xs.take i)) xs[i]).rest⟩ = 0 := by rw [hvd] at hs1; exact hs1
          refine Run.of_wpK (hc _ rfl) 1000 _ ?_
          conv => whnf
          split
          · conv => whnf
            refine Run.draw (hc _ rfl) 14 ?_
            rw [show upto 0 14 = upto 0 6 ++ upto 6 8 from rfl, drawK_app]
            conv => whnf
            refine ⟨⟨by omega, by omega⟩, ?_⟩
            conv => whnf
            rw [opF_load_win rfl rfl rfl rfl (Sx.get_at hi)]
            conv => whnf
            refine ⟨by kernel_rfl, ?_⟩
            refine Run.of_wpK (hc _ rfl) 1000 _ ?_
            conv => whnf
            rw [evd]
            conv => whnf
            rw [ets, evs1]
            conv => whnf
            rw [etb]
            cases hf : stepB p (steps p s (xs.take i)) xs[i] with
            | true =>
              rw [hf, if_pos rfl] at e2
              have e2l : (outs p s 0 (xs.take (i + 1))).length = (outs p s 0 (xs.take i)).length + 1 := by rw [e2, List.length_append]; rfl
              obtain ⟨hlt, hval⟩ := List.getElem?_eq_some_iff.1 (oa1 hf)
              rw [decide_eq_true (show ((outs p s 0 (xs.take i)).length : Int) < ((outs p s 0 xs).length : Int) by omega)]
              conv => whnf
              refine ⟨⟨by omega, by omega⟩, ?_⟩
              conv => whnf
              rw [opF_load_at rfl rfl rfl rfl (get_row hlt)]
              conv => whnf
              rw [show ((outs p s 0 xs)[(outs p s 0 (xs.take i)).length] == (i : Int)) = true by rw [hval]; simp]
              conv => whnf
              rw [decide_eq_false (stepB_rest hf)]
              conv => whnf
              refine Run.draw (hc _ rfl) 15 ?_
              rw [show upto 0 15 = upto 0 4 ++ upto 4 11 from rfl, drawK_app]
              conv => whnf
              cases hk0 : decide ((0 : Int) < ((outs p s 0 (xs.take i)).length : Int))
              · conv => whnf
                refine ⟨by kernel_rfl, ?_⟩
                refine Run.of_wpK (hc _ rfl) 1000 _ ?_
                conv => whnf
                rw [wrap_succ (i := (outs p s 0 (xs.take i)).length) (by omega)]
                rw [wrap_succ (i := i) (by omega)]
                refine Run.trim (T' := [(2, .slc 0 0 xs.length cap), (3, .ptr 1 0), (4, .ptr 2 0), (7, .opq 3), (8, .ptr 4 0), (10, ii ((outs p s 0 (xs.take (i + 1))).length : Int)), (11, ii ((i + 1 : Nat) : Int))]) (M' := [(0, .win (ints xs)), (1, .cells p.cells 23), (2, .cells (steps p s (xs.take (i + 1))).cells 25), (3, .row 1 (outs p s 0 xs).length ((outs p s 0 xs).map fun x => .v (.int .i64 x)) 3), (4, .cells (steps p s xs).cells 25)]) 5 ?_ ?_ (fun p hp => by cases hp) ih
                · rw [e2l]
                  exact ⟨⟨rfl, by simp [SV.sc]⟩, ⟨rfl, by simp [SV.sc]⟩, ⟨rfl, by simp [SV.sc]⟩, ⟨rfl, by simp [SV.sc]⟩, ⟨rfl, by simp [SV.sc]⟩, ⟨rfl, trivial⟩, ⟨rfl, trivial⟩, trivial⟩
                · rw [e1]
                  exact ⟨⟨rfl, by omega, trivial⟩, ⟨rfl, by omega, by simp [SObj.sc, Prm.cells, SV.scs, SV.sc]⟩, ⟨rfl, by omega, by simp [SObj.sc, Ste.cells, SV.scs, SV.sc]⟩, ⟨rfl, by omega, scs_i _ _⟩, ⟨rfl, by omega, by simp [SObj.sc, Ste.cells, SV.scs, SV.sc]⟩, trivial⟩
              · have hk0 := of_decide_eq_true hk0
                obtain ⟨K, hK⟩ : ∃ K, (outs p s 0 (xs.take i)).length = K + 1 := ⟨(outs p s 0 (xs.take i)).length - 1, by omega⟩
                have hlt1 : K < (outs p s 0 xs).length := by omega
                obtain ⟨g1, g2, g3⟩ := outs_apart hv0 xs hi hf hK (t0 := (outs p s 0 xs)[K]) (List.getElem?_eq_getElem hlt1)
                have hwk : IntKind.i64.wrap (((outs p s 0 (xs.take i)).length : Int) - 1) = (K : Int) := by
                  have := W_id (a := ((outs p s 0 (xs.take i)).length : Int) - 1) (by omega) (by omega)
                  simp only [W] at this
                  rw [this]; omega
                have hwd : IntKind.i64.wrap ((outs p s 0 xs)[(outs p s 0 (xs.take i)).length] - (outs p s 0 xs)[K]) = (i : Int) - (outs p s 0 xs)[K] := by
                  rw [hval]
                  exact W_id (by omega) (by omega)
                conv => whnf
                refine ⟨⟨by omega, by omega⟩, ?_⟩
                conv => whnf
                rw [opF_load_at rfl rfl rfl rfl (get_row hlt)]
                conv => whnf
                rw [hwk]
                refine ⟨⟨by omega, by omega⟩, ?_⟩
                conv => whnf
                rw [opF_load_at rfl rfl rfl rfl (get_row hlt1)]
                conv => whnf
                rw [hwd]
                refine ⟨by kernel_rfl, ?_⟩
                refine Run.of_wpK (hc _ rfl) 1000 _ ?_
                conv => whnf
                rw [decide_eq_false (show ¬ (i : Int) - (outs p s 0 xs)[K] ≤ p.rest by omega)]
                conv => whnf
                rw [wrap_succ (i := (outs p s 0 (xs.take i)).length) (by omega)]
                rw [wrap_succ (i := i) (by omega)]
                refine Run.trim (T' := [(2, .slc 0 0 xs.length cap), (3, .ptr 1 0), (4, .ptr 2 0), (7, .opq 3), (8, .ptr 4 0), (10, ii ((outs p s 0 (xs.take (i + 1))).length : Int)), (11, ii ((i + 1 : Nat) : Int))]) (M' := [(0, .win (ints xs)), (1, .cells p.cells 23), (2, .cells (steps p s (xs.take (i + 1))).cells 25), (3, .row 1 (outs p s 0 xs).length ((outs p s 0 xs).map fun x => .v (.int .i64 x)) 3), (4, .cells (steps p s xs).cells 25)]) 5 ?_ ?_ (fun p hp => by cases hp) ih
                · rw [e2l]
                  exact ⟨⟨rfl, by simp [SV.sc]⟩, ⟨rfl, by simp [SV.sc]⟩, ⟨rfl, by simp [SV.sc]⟩, ⟨rfl, by simp [SV.sc]⟩, ⟨rfl, by simp [SV.sc]⟩, ⟨rfl, trivial⟩, ⟨rfl, trivial⟩, trivial⟩
                · rw [e1]
                  exact ⟨⟨rfl, by omega, trivial⟩, ⟨rfl, by omega, by simp [SObj.sc, Prm.cells, SV.scs, SV.sc]⟩, ⟨rfl, by omega, by simp [SObj.sc, Ste.cells, SV.scs, SV.sc]⟩, ⟨rfl, by omega, scs_i _ _⟩, ⟨rfl, by omega, by simp [SObj.sc, Ste.cells, SV.scs, SV.sc]⟩, trivial⟩
            | false =>
              rw [hf, if_neg (by decide), List.append_nil] at e2
              cases hd : decide (((outs p s 0 (xs.take i)).length : Int) < ((outs p s 0 xs).length : Int))
              · conv => whnf
                rw [wrap_succ (i := i) (by omega)]
                refine Run.trim (T' := [(2, .slc 0 0 xs.length cap), (3, .ptr 1 0), (4, .ptr 2 0), (7, .opq 3), (8, .ptr 4 0), (10, ii ((outs p s 0 (xs.take (i + 1))).length : Int)), (11, ii ((i + 1 : Nat) : Int))]) (M' := [(0, .win (ints xs)), (1, .cells p.cells 23), (2, .cells (steps p s (xs.take (i + 1))).cells 25), (3, .row 1 (outs p s 0 xs).length ((outs p s 0 xs).map fun x => .v (.int .i64 x)) 3), (4, .cells (steps p s xs).cells 25)]) 5 ?_ ?_ (fun p hp => by cases hp) ih
                · rw [e2]
                  exact ⟨⟨rfl, by simp [SV.sc]⟩, ⟨rfl, by simp [SV.sc]⟩, ⟨rfl, by simp [SV.sc]⟩, ⟨rfl, by simp [SV.sc]⟩, ⟨rfl, by simp [SV.sc]⟩, ⟨rfl, trivial⟩, ⟨rfl, trivial⟩, trivial⟩
                · rw [e1]
                  exact ⟨⟨rfl, by omega, trivial⟩, ⟨rfl, by omega, by simp [SObj.sc, Prm.cells, SV.scs, SV.sc]⟩, ⟨rfl, by omega, by simp [SObj.sc, Ste.cells, SV.scs, SV.sc]⟩, ⟨rfl, by omega, scs_i _ _⟩, ⟨rfl, by omega, by simp [SObj.sc, Ste.cells, SV.scs, SV.sc]⟩, trivial⟩
              · have hd := of_decide_eq_true hd
                have hlt : (outs p s 0 (xs.take i)).length < (outs p s 0 xs).length := by omega
                have hval : (outs p s 0 xs)[(outs p s 0 (xs.take i)).length] ≠ (i : Int) := fun h => oa2 hf (by rw [List.getElem?_eq_getElem hlt, h])
                conv => whnf
                refine ⟨⟨by omega, by omega⟩, ?_⟩
                conv => whnf
                rw [opF_load_at rfl rfl rfl rfl (get_row hlt)]
                conv => whnf
                rw [show ((outs p s 0 xs)[(outs p s 0 (xs.take i)).length] == (i : Int)) = false by simp [hval]]
                conv => whnf
                rw [wrap_succ (i := i) (by omega)]
                refine Run.trim (T' := [(2, .slc 0 0 xs.length cap), (3, .ptr 1 0), (4, .ptr 2 0), (7, .opq 3), (8, .ptr 4 0), (10, ii ((outs p s 0 (xs.take (i + 1))).length : Int)), (11, ii ((i + 1 : Nat) : Int))]) (M' := [(0, .win (ints xs)), (1, .cells p.cells 23), (2, .cells (steps p s (xs.take (i + 1))).cells 25), (3, .row 1 (outs p s 0 xs).length ((outs p s 0 xs).map fun x => .v (.int .i64 x)) 3), (4, .cells (steps p s xs).cells 25)]) 5 ?_ ?_ (fun p hp => by cases hp) ih
                · rw [e2]
                  exact ⟨⟨rfl, by simp [SV.sc]⟩, ⟨rfl, by simp [SV.sc]⟩, ⟨rfl, by simp [SV.sc]⟩, ⟨rfl, by simp [SV.sc]⟩, ⟨rfl, by simp [SV.sc]⟩, ⟨rfl, trivial⟩, ⟨rfl, trivial⟩, trivial⟩
                · rw [e1]
                  exact ⟨⟨rfl, by omega, trivial⟩, ⟨rfl, by omega, by simp [SObj.sc, Prm.cells, SV.scs, SV.sc]⟩, ⟨rfl, by omega, by simp [SObj.sc, Ste.cells, SV.scs, SV.sc]⟩, ⟨rfl, by omega, scs_i _ _⟩, ⟨rfl, by omega, by simp [SObj.sc, Ste.cells, SV.scs, SV.sc]⟩, trivial⟩
          · rename_i hn; have := of_decide_eq_false hn; omega
        · refine Run.of_wpK (hc _ rfl) 1000 _ ?_
          conv => whnf
          split
          · rename_i hn; have := of_decide_eq_true hn; omega
          · conv => whnf
            rw [List.take_length]
            rw [show (((outs p s 0 xs).length : Int) == ((outs p s 0 xs).length : Int)) = true by simp]
            conv => whnf
            rw [show ((steps p s xs).v == (steps p s xs).v && ((steps p s xs).rest == (steps p s xs).rest && true)) = true by simp]
            conv => whnf
            exact ⟨fun ρ w' hW _ => ⟨rfl, hW.toExt⟩⟩
      · conv => whnf
        exact ⟨fun ρ w' hW _ => ⟨rfl, hW.toExt⟩⟩
    · conv => whnf
      exact ⟨fun ρ w' hW _ => ⟨rfl, hW.toExt⟩⟩
end Go.Proofs.Ytoipnojibkjjnaa
