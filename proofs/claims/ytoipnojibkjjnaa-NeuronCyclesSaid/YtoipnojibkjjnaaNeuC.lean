/-
  Walks of the functions of package neuron (part C): 'newCell', 'tick', 'Tick', 'Leak': what they compute.
  For every argument; the world only gets new blocks, but for the cell that 'tick' writes.
-/
import Derived.Test.YtoipnojibkjjnaaNeuB
namespace Go.Proofs.Ytoipnojibkjjnaa
open Go.Sx
set_option maxRecDepth 100000

def FPS_v (f : Prm → Ste → Value) : List SV → Option SV
  | [x, y] => match prmOf x.cells with
    | some p => match steOf y.cells with
      | some s => some (.v (f p s))
      | none => none
    | none => none
  | _ => none
abbrev FPS (f : Prm → Ste → Value) : Mem → List SV → Option (List Nat × SV) := plainF (FPS_v f)
theorem PureV.ofPS {g : FuncId} {f : Prm → Ste → Value} (he : Enters Try.prog g) (h : ∀ (p : Prm) (s : Ste) w, Calls Try.prog g #[p.sv.conc env0, s.sv.conc env0] w fun e w' => e = .returned (f p s) ∧ Ext w w') : PureV Try.prog g (FPS_v f) where
  ent := he
  sc S args v hv _ := by
    unfold FPS_v at hv
    split at hv
    · split at hv
      · split at hv
        · obtain rfl := Option.some.inj hv; trivial
        · cases hv
      · cases hv
    · cases hv
  run ρ args v w hv := by
    unfold FPS_v at hv
    split at hv
    · split at hv
      · rename_i x y _ p hp
        split at hv
        · rename_i s hs
          obtain rfl := Option.some.inj hv
          have := h p s w
          simp only [SV.concs, prm_conc ρ hp, ste_conc ρ hs]
          exact this
        · cases hv
      · cases hv
    · cases hv
theorem Pure.ofPS {g : FuncId} {f : Prm → Ste → Value} (he : Enters Try.prog g) (h : ∀ (p : Prm) (s : Ste) w, Calls Try.prog g #[p.sv.conc env0, s.sv.conc env0] w fun e w' => e = .returned (f p s) ∧ Ext w w') : Pure Try.prog g (FPS f) := (PureV.ofPS he h).lift
theorem valid_pure : Pure Try.prog 21 (FPS fun p s => .int .i64 (vld p s)) := Pure.ofPS (ent _ _ Try.func21 (by kernel_rfl) rfl) valid_run
abbrev pf3 : PF := (21, FPS fun p s => .int .i64 (vld p s)) :: pf2
theorem pf3_ok : PF.oks Try.prog pf3 := ⟨valid_pure, pf2_ok⟩

theorem chk_known {p : Prm} (h : chk p = 0) : p.lk = 0 ∨ p.lk = 1 ∨ p.lk = 2 := by
  unfold chk at h
  split at h
  · cases h
  · rename_i hn
    simp at hn
    omega
theorem vld_zero {p : Prm} {s : Ste} (h : vld p s = 0) : chk p = 0 ∧ wi s.v p.floor 1048576 = true ∧ wi s.rest 0 p.rest = true := by
  unfold vld at h
  split at h
  · rename_i hn; simp [h] at hn
  · rename_i hn
    split at h
    · cases h
    · rename_i h2; simp at hn h2; exact ⟨hn, h2⟩

/-- The cell's contents. -/
def cellOf (p : Prm) (s : Ste) : List SV := p.cells ++ s.cells ++ [.v (lfun p.lk)]
def CellAt (b : Nat) (p : Prm) (s : Ste) (w : World) : Prop := w.heap[b]? = some (.cells (SV.concs env0 (cellOf p s)).toArray 63 (0, 0))

theorem newCell_bad (p : Prm) (s : Ste) (h : vld p s ≠ 0) (w : World) : Calls Try.prog 39 #[p.sv.conc env0, s.sv.conc env0] w fun e w' => e = .returned (.tuple #[.pointer none, .int .i64 (vld p s)]) ∧ Ext w w' := by
  obtain ⟨lk, leak, bias, thr, rk, reset, floor, rest⟩ := p
  obtain ⟨sv, sr⟩ := s
  refine Run.start0 (tab := tab) (pf := pf3) (cuts := []) mixed tab_ok pf3_ok Try.func39 rfl [.agg [ii lk, ii leak, ii bias, ii thr, ii rk, ii reset, ii floor, ii rest], .agg [ii sv, ii sr]] 1000 (by simp [SV.scs, SV.sc]) rfl ?_
  conv => whnf
  cases hc : vld ⟨lk, leak, bias, thr, rk, reset, floor, rest⟩ ⟨sv, sr⟩ != 0
  · exact absurd (by simpa using hc) h
  · conv => whnf
    exact ⟨fun ρ w' hW _ => ⟨rfl, hW.toExt⟩⟩

theorem newCell_ok (p : Prm) (s : Ste) (h : vld p s = 0) (w : World) : Calls Try.prog 39 #[p.sv.conc env0, s.sv.conc env0] w fun e w' =>
    ∃ b, e = .returned (.tuple #[.pointer (some ⟨b, 0, none⟩), .int .i64 0]) ∧ Ext w w' ∧ w.heap.size ≤ b ∧ CellAt b p s w' := by
  have hk := chk_known (vld_zero h).1
  obtain ⟨lk, leak, bias, thr, rk, reset, floor, rest⟩ := p
  obtain ⟨sv, sr⟩ := s
  rcases hk with hk | hk | hk
  all_goals
    simp only at hk
    subst hk
    refine Run.start0 (tab := tab) (pf := pf3) (cuts := []) mixed tab_ok pf3_ok Try.func39 rfl [.agg [ii _, ii leak, ii bias, ii thr, ii rk, ii reset, ii floor, ii rest], .agg [ii sv, ii sr]] 1000 (by simp [SV.scs, SV.sc]) rfl ?_
    conv => whnf
    split
    · rename_i hc; exfalso; rw [h] at hc; cases hc
    · conv => whnf
      refine ⟨fun ρ w' hW _ => ?_⟩
      obtain ⟨_, _, ho, hh⟩ := hW.mem 3 _ rfl
      have hn := hW.new 3 _ rfl trivial
      refine ⟨ρ.s 3, ?_, hW.toExt, ?_, hh⟩
      · show Ending.returned (.tuple #[.pointer (some ⟨ρ.s 3, ρ.o 3 + 0, none⟩), .int .i64 0]) = _
        rw [ho]
      · rcases hn with ⟨q, hq, _⟩ | hn
        · cases hq
        · exact hn

/-! ### tick -/
def stepV (p : Prm) (s : Ste) (x : Int) : Int := max p.floor (min 1048576 (W (W (leakW p.lk p.leak s.v + p.bias) + max (-4194304) (min 4194304 x))))
def stepS (p : Prm) (s : Ste) (x : Int) : Ste :=
  if 0 < s.rest then ⟨s.v, W (s.rest - 1)⟩
  else if stepV p s x < p.thr then ⟨stepV p s x, s.rest⟩
  else if p.rk = 1 then ⟨W (stepV p s x - p.thr), p.rest⟩ else ⟨p.reset, p.rest⟩
def stepB (p : Prm) (s : Ste) (x : Int) : Bool := if 0 < s.rest then false else if stepV p s x < p.thr then false else true

def envB (b : Nat) : Env := ⟨fun _ => b, fun _ => 0, fun _ => (none, 0, 0)⟩

abbrev pf4 : PF := (55, FPI fun _ v => .int .i64 v) :: (56, FPI fun p v => .int .i64 (if v < 0 then min 0 (W (v + p.leak)) else max 0 (W (v - p.leak)))) ::
  (57, FPI fun p v => .int .i64 (W (v - W ((W (v * p.leak)).tdiv 256)))) :: pf3
theorem pf4_ok : PF.oks Try.prog pf4 := ⟨leak1_pure, leak2_pure, leak3_pure, pf3_ok⟩

theorem tick_run (p : Prm) (s : Ste) (x : Int) (hk : p.lk = 0 ∨ p.lk = 1 ∨ p.lk = 2) (b : Nat) (w : World) (hb : CellAt b p s w) : Calls Try.prog 40 #[.pointer (some ⟨b, 0, none⟩), .int .i64 x] w fun e w' =>
    e = .returned (.bool (stepB p s x)) ∧ Mod w b w' ∧ CellAt b p (stepS p s x) w' := by
  obtain ⟨lk, leak, bias, thr, rk, reset, floor, rest⟩ := p
  obtain ⟨sv, sr⟩ := s
  have hW0 := WI.startL (w := w) (i := 0) (b := b) (n := 1) (ρ := envB b) (o := .cells (cellOf ⟨lk, leak, bias, thr, rk, reset, floor, rest⟩ ⟨sv, sr⟩) 63) (by omega) rfl (by simp [SObj.sc, cellOf, Prm.cells, Ste.cells, SV.scs, SV.sc]) ⟨rfl, hb⟩
  have fin : ∀ {c : Cx} {M : List (Nat × SObj)} {n : Nat} {v r : Int} {bb : Bool}, c.w0 = w → c.L = [(0, b)] → Sx.look M 0 = some (.cells (cellOf ⟨lk, leak, bias, thr, rk, reset, floor, rest⟩ ⟨v, r⟩) 63) →
      stepS ⟨lk, leak, bias, thr, rk, reset, floor, rest⟩ ⟨sv, sr⟩ x = ⟨v, r⟩ → stepB ⟨lk, leak, bias, thr, rk, reset, floor, rest⟩ ⟨sv, sr⟩ x = bb →
      RetOk c M n (.v (.bool bb)) (fun e w' => e = .returned (.bool (stepB ⟨lk, leak, bias, thr, rk, reset, floor, rest⟩ ⟨sv, sr⟩ x)) ∧ Sx.Mod w b w' ∧ CellAt b ⟨lk, leak, bias, thr, rk, reset, floor, rest⟩ (stepS ⟨lk, leak, bias, thr, rk, reset, floor, rest⟩ ⟨sv, sr⟩ x) w') := by
    intro c M n v r bb hw hL hM h1 h2
    refine ⟨fun ρ w' hW _ => ?_⟩
    rw [hw, hL] at hW
    have hs : ρ.s 0 = b := (hW.lid (0, b) (by simp)).2
    have hh := (hW.mem 0 _ hM).2.2.2
    rw [hs] at hh
    exact ⟨by rw [h2]; rfl, hW.toMod, by rw [h1]; exact hh⟩
  rcases hk with hk | hk | hk
  all_goals
    simp only at hk
    subst hk
    refine Run.calls (tab := tab) (pf := pf4) (cuts := cuts40) Try.func40 rfl (envB b) [.ptr 0 0, ii x] _ 1 (by simp [SV.scs, SV.sc]) rfl hW0 (Run.of_wpK ⟨tab_ok, pf4_ok, Try.func40, mixed, fun _ h => by cases h⟩ 2000 _ ?_)
    conv => whnf
    split
    · rename_i h0
      conv => whnf
      have h0 := of_decide_eq_true h0
      exact fin rfl rfl rfl (by simp only [stepS]; rw [if_pos h0]) (by simp only [stepB]; rw [if_pos h0])
    · rename_i h0
      conv => whnf
      have h0 := of_decide_eq_false h0
      refine ⟨by kernel_rfl, ?_⟩
      conv => whnf
      split
      · rename_i h1
        have h1 := of_decide_eq_true h1
        simp only [W] at h1
        conv => whnf
        exact fin rfl rfl rfl (by simp only [stepS, stepV, leakW, W, Int.reduceEq, ↓reduceIte]; rw [if_neg h0, if_pos h1]) (by simp only [stepB, stepV, leakW, W, Int.reduceEq, ↓reduceIte]; rw [if_neg h0, if_pos h1])
      · rename_i h1
        have h1 := of_decide_eq_false h1
        simp only [W] at h1
        conv => whnf
        refine ⟨by kernel_rfl, ?_⟩
        conv => whnf
        split
        · rename_i h2
          have h2 : rk = 1 := by simpa using h2
          conv => whnf
          exact fin rfl rfl rfl (by simp only [stepS, stepV, leakW, W, Int.reduceEq, ↓reduceIte]; rw [if_neg h0, if_neg h1, if_pos h2]; rfl) (by simp only [stepB, stepV, leakW, W, Int.reduceEq, ↓reduceIte]; rw [if_neg h0, if_neg h1])
        · rename_i h2
          have h2 : ¬ rk = 1 := by simpa using h2
          conv => whnf
          exact fin rfl rfl rfl (by simp only [stepS, stepV, leakW, W, Int.reduceEq, ↓reduceIte]; rw [if_neg h0, if_neg h1, if_neg h2]) (by simp only [stepB, stepV, leakW, W, Int.reduceEq, ↓reduceIte]; rw [if_neg h0, if_neg h1])
end Go.Proofs.Ytoipnojibkjjnaa
