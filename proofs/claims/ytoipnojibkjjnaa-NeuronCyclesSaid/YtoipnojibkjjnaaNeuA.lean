/-
  Walks of the functions of package neuron (part A): 'within', 'bounded', 'leaks' and the three leaks, 'Check': what they compute.
  For every argument; the world only gets new blocks.
-/
import Derived.Test.YtoipnojibkjjnaaTab
namespace Go.Proofs.Ytoipnojibkjjnaa
open Go.Sx
set_option maxRecDepth 100000

theorem mixed : Try.prog.follows .mixedOrders = true := by kernel_rfl
theorem ent (f : FuncId) (fn : Func) (h1 : Try.prog.funcs[f]? = some fn) (h2 : (fn.name == "runtime.NumGoroutine") = false) (h3 : fn.body.isNone = false) : Enters Try.prog f := ⟨fn, h1, h2, h3⟩

/-- 'lo <= n && n <= hi'. -/
def wi (n lo hi : Int) : Bool := decide (lo ≤ n) && decide (n ≤ hi)

def F3_v (f : Int → Int → Int → Value) : List SV → Option SV
  | [.v (.int .i64 a), .v (.int .i64 b), .v (.int .i64 c)] => some (.v (f a b c))
  | _ => none
abbrev F3 (f : Int → Int → Int → Value) : Mem → List SV → Option (List Nat × SV) := plainF (F3_v f)
theorem PureV.of3 {g : FuncId} {f : Int → Int → Int → Value} (he : Enters Try.prog g) (h : ∀ a b c w, Calls Try.prog g #[.int .i64 a, .int .i64 b, .int .i64 c] w fun e w' => e = .returned (f a b c) ∧ Ext w w') : PureV Try.prog g (F3_v f) where
  ent := he
  sc S args v hv _ := by
    unfold F3_v at hv
    split at hv
    · obtain rfl := Option.some.inj hv; trivial
    · cases hv
  run ρ args v w hv := by
    unfold F3_v at hv
    split at hv
    · obtain rfl := Option.some.inj hv; exact h _ _ _ w
    · cases hv
theorem Pure.of3 {g : FuncId} {f : Int → Int → Int → Value} (he : Enters Try.prog g) (h : ∀ a b c w, Calls Try.prog g #[.int .i64 a, .int .i64 b, .int .i64 c] w fun e w' => e = .returned (f a b c) ∧ Ext w w') : Pure Try.prog g (F3 f) := (PureV.of3 he h).lift

theorem within_run (n lo hi : Int) (w : World) : Calls Try.prog 44 #[.int .i64 n, .int .i64 lo, .int .i64 hi] w fun e w' => e = .returned (.bool (wi n lo hi)) ∧ Ext w w' := by
  refine Run.start0 (tab := tab) (pf := []) (cuts := []) mixed tab_ok trivial Try.func44 rfl [.v (.int .i64 n), .v (.int .i64 lo), .v (.int .i64 hi)] 100 ⟨trivial, trivial, trivial, trivial⟩ rfl ?_
  conv => whnf
  cases h : decide (lo ≤ n)
  all_goals
    conv => whnf
    exact ⟨fun ρ w' hW _ => ⟨by simp [SV.conc, wi, h], hW.toExt⟩⟩
theorem within_pure : Pure Try.prog 44 (F3 fun n lo hi => .bool (wi n lo hi)) := Pure.of3 (ent _ _ Try.func44 (by kernel_rfl) rfl) within_run

theorem bounded_run (n lo hi : Int) (w : World) : Calls Try.prog 53 #[.int .i64 n, .int .i64 lo, .int .i64 hi] w fun e w' => e = .returned (.int .i64 (max lo (min hi n))) ∧ Ext w w' := by
  refine Run.start0 (tab := tab) (pf := []) (cuts := []) mixed tab_ok trivial Try.func53 rfl [.v (.int .i64 n), .v (.int .i64 lo), .v (.int .i64 hi)] 100 ⟨trivial, trivial, trivial, trivial⟩ rfl ?_
  conv => whnf
  exact ⟨fun ρ w' hW _ => ⟨rfl, hW.toExt⟩⟩
theorem bounded_pure : Pure Try.prog 53 (F3 fun n lo hi => .int .i64 (max lo (min hi n))) := Pure.of3 (ent _ _ Try.func53 (by kernel_rfl) rfl) bounded_run

/-! ### A neuron's parameters -/
structure Prm where
  lk : Int
  leak : Int
  bias : Int
  thr : Int
  rk : Int
  reset : Int
  floor : Int
  rest : Int
abbrev ii (n : Int) : SV := .v (.int .i64 n)
def Prm.cells (p : Prm) : List SV := [ii p.lk, ii p.leak, ii p.bias, ii p.thr, ii p.rk, ii p.reset, ii p.floor, ii p.rest]
def Prm.sv (p : Prm) : SV := .agg p.cells
def prmOf : List SV → Option Prm
  | [.v (.int .i64 a), .v (.int .i64 b), .v (.int .i64 c), .v (.int .i64 d), .v (.int .i64 e), .v (.int .i64 f), .v (.int .i64 g), .v (.int .i64 h)] => some ⟨a, b, c, d, e, f, g, h⟩
  | _ => none
theorem prmOf_eq {l : List SV} {p : Prm} (h : prmOf l = some p) : l = p.cells := by
  unfold prmOf at h
  split at h
  · obtain rfl := Option.some.inj h; rfl
  · cases h

/-! ### The leaks -/
def lfun (k : Int) : Value := if k = 0 then .func (.func 55) #[] #[] else if k = 1 then .func (.func 56) #[] #[] else .func (.func 57) #[] #[]
def Fleaks_v : List SV → Option SV
  | [.v (.int .i64 k)] => match k == 0 with
    | true => some (.tup [.agg [ii 0, .v (.func (.func 55) #[] #[])], .v (.bool true)])
    | false => match k == 1 with
      | true => some (.tup [.agg [ii 1048576, .v (.func (.func 56) #[] #[])], .v (.bool true)])
      | false => match k == 2 with
        | true => some (.tup [.agg [ii 256, .v (.func (.func 57) #[] #[])], .v (.bool true)])
        | false => some (.tup [.agg [ii 0, .v .nilFunc], .v (.bool false)])
  | _ => none
abbrev Fleaks : Mem → List SV → Option (List Nat × SV) := plainF (Fleaks_v)
theorem leaks_run (ρ : Env) (k : Int) (w : World) (v : SV) (hv : Fleaks_v [ii k] = some v) : Calls Try.prog 45 #[.int .i64 k] w fun e w' => e = .returned (v.conc ρ) ∧ Ext w w' := by
  refine Run.start0 (tab := tab) (pf := []) (cuts := []) mixed tab_ok trivial Try.func45 rfl [ii k] 200 ⟨trivial, trivial⟩ rfl ?_
  simp only [Fleaks_v, ii] at hv
  conv => whnf
  cases h0 : k == 0
  · conv => whnf
    cases h1 : k == 1
    · conv => whnf
      cases h2 : k == 2
      · conv => whnf
        simp only [h0, h1, h2, Option.some.injEq] at hv
        subst hv
        exact ⟨fun ρ w' hW _ => ⟨rfl, hW.toExt⟩⟩
      · conv => whnf
        simp only [h0, h1, h2, Option.some.injEq] at hv
        subst hv
        exact ⟨fun ρ w' hW _ => ⟨rfl, hW.toExt⟩⟩
    · conv => whnf
      simp only [h0, h1, Option.some.injEq] at hv
      subst hv
      exact ⟨fun ρ w' hW _ => ⟨rfl, hW.toExt⟩⟩
  · conv => whnf
    simp only [h0, Option.some.injEq] at hv
    subst hv
    exact ⟨fun ρ w' hW _ => ⟨rfl, hW.toExt⟩⟩
theorem leaks_pure_v : PureV Try.prog 45 Fleaks_v where
  ent := ent _ _ Try.func45 (by kernel_rfl) rfl
  sc S args v hv _ := by
    unfold Fleaks_v at hv
    split at hv
    · repeat' (split at hv)
      all_goals (obtain rfl := Option.some.inj hv; simp [SV.sc, SV.scs])
    · cases hv
  run ρ args v w hv := by
    have hv' := hv
    unfold Fleaks_v at hv'
    split at hv'
    · exact leaks_run ρ _ w v hv
    · cases hv'
theorem leaks_pure : Pure Try.prog 45 Fleaks := (leaks_pure_v).lift

def W (n : Int) : Int := IntKind.i64.wrap n
/-- What the leak of kind 'k' makes of a potential, as the code reckons it. -/
def leakW (k l v : Int) : Int := if k = 0 then v else if k = 1 then (if v < 0 then min 0 (W (v + l)) else max 0 (W (v - l))) else W (v - W ((W (v * l)).tdiv 256))

def FPI_v (f : Prm → Int → Value) : List SV → Option SV
  | [x, .v (.int .i64 v)] => match prmOf x.cells with
    | some p => some (.v (f p v))
    | none => none
  | _ => none
abbrev FPI (f : Prm → Int → Value) : Mem → List SV → Option (List Nat × SV) := plainF (FPI_v f)
theorem prm_conc {x : SV} {p : Prm} (ρ : Env) (h : prmOf x.cells = some p) : x.conc ρ = .agg (SV.concs ρ p.cells).toArray := by
  have := prmOf_eq h
  cases x with
  | agg cs => simp only [SV.cells] at this; subst this; rfl
  | v y =>
    cases y with
    | agg cs =>
      simp only [SV.cells] at this
      have h2 := congrArg (SV.concs ρ) this
      rw [concs_v] at h2
      simp only [SV.conc, ← h2, Array.toArray_toList]
    | _ => simp [SV.cells, Prm.cells] at this
  | _ => simp [SV.cells, Prm.cells] at this

theorem leak1_run (p : Prm) (v : Int) (w : World) : Calls Try.prog 55 #[p.sv.conc env0, .int .i64 v] w fun e w' => e = .returned (.int .i64 v) ∧ Ext w w' := by
  refine Run.start0 (tab := tab) (pf := []) (cuts := []) mixed tab_ok trivial Try.func55 rfl [p.sv, ii v] 200 (by simp [SV.scs, SV.sc, Prm.sv, Prm.cells]) rfl ?_
  conv => whnf
  exact ⟨fun ρ w' hW _ => ⟨rfl, hW.toExt⟩⟩
theorem leak2_run (p : Prm) (v : Int) (w : World) : Calls Try.prog 56 #[p.sv.conc env0, .int .i64 v] w fun e w' => e = .returned (.int .i64 (if v < 0 then min 0 (W (v + p.leak)) else max 0 (W (v - p.leak)))) ∧ Ext w w' := by
  refine Run.start0 (tab := tab) (pf := []) (cuts := []) mixed tab_ok trivial Try.func56 rfl [p.sv, ii v] 200 (by simp [SV.scs, SV.sc, Prm.sv, Prm.cells]) rfl ?_
  conv => whnf
  cases h : decide (v < 0)
  · conv => whnf
    have : ¬ v < 0 := of_decide_eq_false h
    exact ⟨fun ρ w' hW _ => ⟨by rw [if_neg this]; rfl, hW.toExt⟩⟩
  · conv => whnf
    have : v < 0 := of_decide_eq_true h
    exact ⟨fun ρ w' hW _ => ⟨by rw [if_pos this]; rfl, hW.toExt⟩⟩
theorem leak3_run (p : Prm) (v : Int) (w : World) : Calls Try.prog 57 #[p.sv.conc env0, .int .i64 v] w fun e w' => e = .returned (.int .i64 (W (v - W ((W (v * p.leak)).tdiv 256)))) ∧ Ext w w' := by
  refine Run.start0 (tab := tab) (pf := []) (cuts := []) mixed tab_ok trivial Try.func57 rfl [p.sv, ii v] 200 (by simp [SV.scs, SV.sc, Prm.sv, Prm.cells]) rfl ?_
  conv => whnf
  refine ⟨by decide, ?_⟩
  conv => whnf
  exact ⟨fun ρ w' hW _ => ⟨rfl, hW.toExt⟩⟩

theorem PureV.ofPI {g : FuncId} {f : Prm → Int → Value} (he : Enters Try.prog g) (h : ∀ (p : Prm) v w, Calls Try.prog g #[p.sv.conc env0, .int .i64 v] w fun e w' => e = .returned (f p v) ∧ Ext w w') : PureV Try.prog g (FPI_v f) where
  ent := he
  sc S args v hv _ := by
    unfold FPI_v at hv
    split at hv
    · split at hv
      · obtain rfl := Option.some.inj hv; trivial
      · cases hv
    · cases hv
  run ρ args v w hv := by
    unfold FPI_v at hv
    split at hv
    · split at hv
      · rename_i x n _ p hp
        obtain rfl := Option.some.inj hv
        have := h p n w
        simp only [SV.concs, prm_conc ρ hp]
        exact this
      · cases hv
    · cases hv
theorem Pure.ofPI {g : FuncId} {f : Prm → Int → Value} (he : Enters Try.prog g) (h : ∀ (p : Prm) v w, Calls Try.prog g #[p.sv.conc env0, .int .i64 v] w fun e w' => e = .returned (f p v) ∧ Ext w w') : Pure Try.prog g (FPI f) := (PureV.ofPI he h).lift
theorem leak1_pure : Pure Try.prog 55 (FPI fun _ v => .int .i64 v) := Pure.ofPI (ent _ _ Try.func55 (by kernel_rfl) rfl) leak1_run
theorem leak2_pure : Pure Try.prog 56 (FPI fun p v => .int .i64 (if v < 0 then min 0 (W (v + p.leak)) else max 0 (W (v - p.leak)))) := Pure.ofPI (ent _ _ Try.func56 (by kernel_rfl) rfl) leak2_run
theorem leak3_pure : Pure Try.prog 57 (FPI fun p v => .int .i64 (W (v - W ((W (v * p.leak)).tdiv 256)))) := Pure.ofPI (ent _ _ Try.func57 (by kernel_rfl) rfl) leak3_run

/-! ### Check -/
def most (k : Int) : Int := if k = 0 then 0 else if k = 1 then 1048576 else 256
/-- Neuron's error: 0 (none), 2 (ErrArg), 3 (ErrRange). -/
def chk (p : Prm) : Int :=
  if !(p.lk == 0 || p.lk == 1 || p.lk == 2) || !wi p.rk 0 1 then 2
  else if !wi p.leak (min 1 (most p.lk)) (most p.lk) || !wi p.bias (-1048576) 1048576 || !wi p.floor (-1048576) 0 || !wi p.thr 1 1048576 || !wi p.rest 0 64 ||
    !wi p.reset (if p.rk == 1 then 0 else p.floor) (if p.rk == 1 then 0 else W (p.thr - 1)) then 3 else 0

abbrev pf1 : PF := [(44, F3 fun n lo hi => .bool (wi n lo hi)), (53, F3 fun n lo hi => .int .i64 (max lo (min hi n))), (45, Fleaks)]
theorem pf1_ok : PF.oks Try.prog pf1 := ⟨within_pure, bounded_pure, leaks_pure, trivial⟩

theorem check_known (p : Prm) (hk : p.lk = 0 ∨ p.lk = 1 ∨ p.lk = 2) (w : World) : Calls Try.prog 24 #[p.sv.conc env0] w fun e w' => e = .returned (.int .i64 (chk p)) ∧ Ext w w' := by
  obtain ⟨lk, leak, bias, thr, rk, reset, floor, rest⟩ := p
  have fin : ∀ x : Int, chk ⟨lk, leak, bias, thr, rk, reset, floor, rest⟩ = x → ∀ {c : Cx} {M : List (Nat × SObj)} {n : Nat}, c.w0 = w → c.L = [] → RetOk c M n (.v (.int .i64 x)) (fun e w' => e = .returned (.int .i64 (chk ⟨lk, leak, bias, thr, rk, reset, floor, rest⟩)) ∧ Ext w w') :=
    fun x hx c M n hw hL => ⟨fun ρ w' hW _ => ⟨by rw [hx]; rfl, by rw [hw, hL] at hW; exact hW.toExt⟩⟩
  rcases hk with hk | hk | hk
  all_goals
    simp only at hk
    subst hk
    refine Run.start0 (tab := tab) (pf := pf1) (cuts := cuts24) mixed tab_ok pf1_ok Try.func24 rfl [.agg [ii _, ii leak, ii bias, ii thr, ii rk, ii reset, ii floor, ii rest]] 1000 (by simp [SV.scs, SV.sc]) rfl ?_
    conv => whnf
    cases h0 : wi rk 0 1
    · conv => whnf
      exact fin 2 (by simp [chk, h0]) rfl rfl
    · conv => whnf
      refine ⟨by kernel_rfl, ?_⟩
      conv => whnf
      cases h1 : rk == 1
      all_goals
        conv => whnf
        iterate 6
          all_goals try (split <;> (rename_i h; (try simp only [h]); conv => whnf))
        all_goals first
          | exact fin 3 (by simp only [chk, most, h0, h1]; clear h0 h1; simp [W, *]) rfl rfl
          | exact fin 0 (by simp only [chk, most, h0, h1]; clear h0 h1; simp [W, *]) rfl rfl
end Go.Proofs.Ytoipnojibkjjnaa
