/-
  Walks of the functions of package neuron (part K): 'Cycle': what it computes.
  For every neuron and state without error; the world only gets new blocks.
-/
import Derived.Test.YtoipnojibkjjnaaPlainD
namespace Go.Proofs.Ytoipnojibkjjnaa
open Go.Sx
set_option maxRecDepth 100000

/-- The state behind i ticks with the input x. -/
def sq (p : Prm) (s : Ste) (x : Int) : Nat → Ste
  | 0 => s
  | i + 1 => stepS p (sq p s x i) x
/-- The mark and the wait behind i ticks. -/
def mw : Nat → Nat × Nat
  | 0 => (0, 1)
  | i + 1 => if i + 1 - (mw i).1 = (mw i).2 then (i + 1, 2 * (mw i).2) else mw i
theorem mw_inv : ∀ i, (mw i).2 = (mw i).1 + 1 ∧ (mw i).1 ≤ i ∧ i - (mw i).1 < (mw i).2
  | 0 => by simp [mw]
  | i + 1 => by
    obtain ⟨h1, h2, h3⟩ := mw_inv i
    unfold mw
    split
    · exact ⟨by simp only; omega, by simp only; omega, by simp only; omega⟩
    · exact ⟨h1, by omega, by omega⟩
/-- The first loop ends with tick number N + 1. -/
def StopAt (p : Prm) (s : Ste) (x : Int) (N : Nat) : Prop := sq p s x (N + 1) = sq p s x (mw N).1 ∨ 262144 < N + 1
/-- How many spikes there are in k ticks from number a on. -/
def cnt (p : Prm) (s : Ste) (x : Int) (a : Nat) : Nat → Nat
  | 0 => 0
  | k + 1 => cnt p s x a k + (if stepB p (sq p s x (a + k)) x then 1 else 0)
theorem cnt_le (p : Prm) (s : Ste) (x : Int) (a : Nat) : ∀ k, cnt p s x a k ≤ k
  | 0 => Nat.le_refl _
  | k + 1 => by
    have := cnt_le p s x a k
    unfold cnt
    split <;> omega
def cycV (p : Prm) (s : Ste) (x : Int) (N mu : Nat) : Value :=
  if same (sq p s x (N + 1)) (sq p s x (mw N).1) then
    (if mu + (N + 1 - (mw N).1) ≤ 65536 then .tuple #[.int .i64 (mu : Int), .int .i64 ((N + 1 - (mw N).1 : Nat) : Int), .int .i64 (cnt p s x mu (N + 1 - (mw N).1) : Int), .int .i64 0] else .tuple #[.int .i64 0, .int .i64 0, .int .i64 0, .int .i64 8])
  else .tuple #[.int .i64 0, .int .i64 0, .int .i64 0, .int .i64 8]

theorem Cycle_bad (p : Prm) (s : Ste) (x : Int) (w : World) (h : ¬ vld p s = 0) : Calls Try.prog 35 #[p.sv.conc env0, s.sv.conc env0, .int .i64 x] w fun e w' => e = .returned (.tuple #[.int .i64 0, .int .i64 0, .int .i64 0, .int .i64 (vld p s)]) ∧ Ext w w' := by
  have hc : ∀ (q : Cx), q = ⟨Try.prog, tab, [], 35, Try.f35, cuts35, w, [], none⟩ → q.ok := by
    rintro _ rfl
    exact ⟨tab_ok, trivial, Try.func35, mixed, fun _ h => by cases h⟩
  refine Run.start0 (tab := tab) (pf := []) (cuts := cuts35) mixed tab_ok trivial Try.func35 rfl [p.sv, s.sv, ii x] 1000 (by simp [SV.scs, SV.sc, Prm.sv, Prm.cells, Ste.sv, Ste.cells]) rfl ?_
  conv => whnf
  refine Run.newCell_bad p s h rfl rfl rfl rfl rfl rfl rfl rfl ?_
  refine Run.of_wpK (hc _ rfl) 1000 _ ?_
  conv => whnf
  split
  · rename_i hn
    conv => whnf
    exact ⟨fun ρ w' hW _ => ⟨rfl, hW.toExt⟩⟩
  · rename_i hn
    exact absurd (by simpa using hn) h

theorem Cycle_run (p : Prm) (s : Ste) (x : Int) (w : World) (h : vld p s = 0) (N : Nat) (hN : StopAt p s x N) (hN1 : ∀ i, i < N → ¬ StopAt p s x i) (hNb : N ≤ 262144) (mu : Nat)
    (hmu : sq p s x (N + 1) = sq p s x (mw N).1 → sq p s x mu = sq p s x (mu + (N + 1 - (mw N).1)) ∧ mu ≤ N ∧ ∀ k, k < mu → sq p s x k ≠ sq p s x (k + (N + 1 - (mw N).1))) :
    Calls Try.prog 35 #[p.sv.conc env0, s.sv.conc env0, .int .i64 x] w fun e w' => e = .returned (cycV p s x N mu) ∧ Ext w w' := by
  have hc : ∀ (q : Cx), q = ⟨Try.prog, tab, [], 35, Try.f35, cuts35, w, [], none⟩ → q.ok := by
    rintro _ rfl
    exact ⟨tab_ok, trivial, Try.func35, mixed, fun _ h => by cases h⟩
  have hk := chk_known (vld_zero h).1
  refine Run.start0 (tab := tab) (pf := []) (cuts := cuts35) mixed tab_ok trivial Try.func35 rfl [p.sv, s.sv, ii x] 1000 (by simp [SV.scs, SV.sc, Prm.sv, Prm.cells, Ste.sv, Ste.cells]) rfl ?_
  conv => whnf
  refine Run.newCell p s h rfl rfl rfl rfl rfl rfl rfl rfl ?_
  refine Run.of_wpK (hc _ rfl) 1000 _ ?_
  conv => whnf
  refine Run.newCell p s h rfl rfl rfl rfl rfl rfl rfl rfl ?_
  refine Run.of_wpK (hc _ rfl) 1000 _ ?_
  conv => whnf
  refine Run.trim (T' := [(2, ii x), (3, .ptr 0 0), (4, .ptr 1 0), (6, ii 0), (7, ii 0), (8, ii 0), (10, .ptr 2 0), (11, .ptr 3 0), (13, .ptr 4 0), (14, ii 1), (15, ii 1)]) (M' := [(0, .cells p.cells 23), (1, .cells s.cells 25), (2, .cells (cellOf p s) 63), (3, .cells (cellOf p s) 63), (4, .cells s.cells 25)]) 5 ⟨⟨rfl, trivial⟩, ⟨rfl, by simp [SV.sc]⟩, ⟨rfl, by simp [SV.sc]⟩, ⟨rfl, trivial⟩, ⟨rfl, trivial⟩, ⟨rfl, trivial⟩, ⟨rfl, by simp [SV.sc]⟩, ⟨rfl, by simp [SV.sc]⟩, ⟨rfl, by simp [SV.sc]⟩, ⟨rfl, trivial⟩, ⟨rfl, trivial⟩, trivial⟩ ⟨⟨rfl, by omega, by simp [SObj.sc, Prm.cells, SV.scs, SV.sc]⟩, ⟨rfl, by omega, by simp [SObj.sc, Ste.cells, SV.scs, SV.sc]⟩, ⟨rfl, by omega, cellOf_sc _ _ _⟩, ⟨rfl, by omega, cellOf_sc _ _ _⟩, ⟨rfl, by omega, by simp [SObj.sc, Ste.cells, SV.scs, SV.sc]⟩, trivial⟩ (fun p hp => by cases hp) ?_
  refine Run.upTo (T := fun i => [(2, ii x), (3, .ptr 0 0), (4, .ptr 1 0), (6, ii 0), (7, ii ((i : Int) - ((mw i).1 : Int))), (8, ii 0), (10, .ptr 2 0), (11, .ptr 3 0), (13, .ptr 4 0), (14, ii ((mw i).2 : Int)), (15, ii ((i : Int) + 1))]) (M := fun i => [(0, .cells p.cells 23), (1, .cells s.cells 25), (2, .cells (cellOf p s) 63), (3, .cells (cellOf p (sq p s x i)) 63), (4, .cells (sq p s x (mw i).1).cells 25)]) N ?_ ?_
  · intro i hi ih
    have hns := hN1 i hi
    obtain ⟨m1, m2, m3⟩ := mw_inv i
    refine Run.of_wpK (hc _ rfl) 1000 _ ?_
    conv => whnf
    refine Run.tick p (sq p s x i) x 3 hk rfl rfl rfl rfl rfl rfl rfl rfl rfl ?_
    refine Run.of_wpK (hc _ rfl) 1000 _ ?_
    conv => whnf
    have hwp : IntKind.i64.wrap ((i : Int) - ((mw i).1 : Int) + 1) = (i : Int) - ((mw i).1 : Int) + 1 := W_id (by omega) (by omega)
    have hwn : IntKind.i64.wrap ((i : Int) + 1 + 1) = (i : Int) + 1 + 1 := W_id (by omega) (by omega)
    have hww : IntKind.i64.wrap (2 * ((mw i).2 : Int)) = 2 * ((mw i).2 : Int) := W_id (by omega) (by omega)
    rw [hwp]
    refine ⟨by kernel_rfl, ?_⟩
    conv => whnf
    have hq : same (stepS p (sq p s x i) x) (sq p s x (mw i).1) = false := by
      cases hq : same (stepS p (sq p s x i) x) (sq p s x (mw i).1)
      · rfl
      · exact absurd (.inl ((same_iff _ _).1 hq)) hns
    rw [show ((stepS p (sq p s x i) x).v == (sq p s x (mw i).1).v && ((stepS p (sq p s x i) x).rest == (sq p s x (mw i).1).rest && true)) = false from hq]
    conv => whnf
    cases hpw : ((i : Int) - ((mw i).1 : Int) + 1 == ((mw i).2 : Int))
    · have hne : ¬ i + 1 - (mw i).1 = (mw i).2 := by
        intro hc
        rw [beq_eq_false_iff_ne] at hpw
        omega
      have em : mw (i + 1) = mw i := by rw [mw, if_neg hne]
      conv => whnf
      rw [decide_eq_false (show ¬ (262144 : Int) < (i : Int) + 1 by omega)]
      conv => whnf
      rw [hwn]
      refine Run.trim (T' := [(2, ii x), (3, .ptr 0 0), (4, .ptr 1 0), (6, ii 0), (7, ii (((i + 1 : Nat) : Int) - ((mw (i + 1)).1 : Int))), (8, ii 0), (10, .ptr 2 0), (11, .ptr 3 0), (13, .ptr 4 0), (14, ii ((mw (i + 1)).2 : Int)), (15, ii (((i + 1 : Nat) : Int) + 1))]) (M' := [(0, .cells p.cells 23), (1, .cells s.cells 25), (2, .cells (cellOf p s) 63), (3, .cells (cellOf p (sq p s x (i + 1))) 63), (4, .cells (sq p s x (mw (i + 1)).1).cells 25)]) 5 ?_ ?_ (fun p hp => by cases hp) ih
      · rw [em, show ((i + 1 : Nat) : Int) - ((mw i).1 : Int) = (i : Int) - ((mw i).1 : Int) + 1 by omega, show ((i + 1 : Nat) : Int) + 1 = (i : Int) + 1 + 1 by omega]
        exact ⟨⟨rfl, trivial⟩, ⟨rfl, by simp [SV.sc]⟩, ⟨rfl, by simp [SV.sc]⟩, ⟨rfl, trivial⟩, ⟨rfl, trivial⟩, ⟨rfl, trivial⟩, ⟨rfl, by simp [SV.sc]⟩, ⟨rfl, by simp [SV.sc]⟩, ⟨rfl, by simp [SV.sc]⟩, ⟨rfl, trivial⟩, ⟨rfl, trivial⟩, trivial⟩
      · rw [em]
        exact ⟨⟨rfl, by omega, by simp [SObj.sc, Prm.cells, SV.scs, SV.sc]⟩, ⟨rfl, by omega, by simp [SObj.sc, Ste.cells, SV.scs, SV.sc]⟩, ⟨rfl, by omega, cellOf_sc _ _ _⟩, ⟨rfl, by omega, cellOf_sc _ _ _⟩, ⟨rfl, by omega, by simp [SObj.sc, Ste.cells, SV.scs, SV.sc]⟩, trivial⟩
    · have hpe : i + 1 - (mw i).1 = (mw i).2 := by
        rw [beq_iff_eq] at hpw
        omega
      have em : mw (i + 1) = (i + 1, 2 * (mw i).2) := by rw [mw, if_pos hpe]
      conv => whnf
      rw [decide_eq_false (show ¬ (262144 : Int) < (i : Int) + 1 by omega)]
      conv => whnf
      rw [hwn, hww]
      refine Run.trim (T' := [(2, ii x), (3, .ptr 0 0), (4, .ptr 1 0), (6, ii 0), (7, ii (((i + 1 : Nat) : Int) - ((mw (i + 1)).1 : Int))), (8, ii 0), (10, .ptr 2 0), (11, .ptr 3 0), (13, .ptr 4 0), (14, ii ((mw (i + 1)).2 : Int)), (15, ii (((i + 1 : Nat) : Int) + 1))]) (M' := [(0, .cells p.cells 23), (1, .cells s.cells 25), (2, .cells (cellOf p s) 63), (3, .cells (cellOf p (sq p s x (i + 1))) 63), (4, .cells (sq p s x (mw (i + 1)).1).cells 25)]) 5 ?_ ?_ (fun p hp => by cases hp) ih
      · rw [em, show ((i + 1 : Nat) : Int) - (((i + 1, 2 * (mw i).2) : Nat × Nat).1 : Int) = 0 by simp, show ((i + 1 : Nat) : Int) + 1 = (i : Int) + 1 + 1 by omega, show ((((i + 1, 2 * (mw i).2) : Nat × Nat).2 : Nat) : Int) = 2 * ((mw i).2 : Int) by simp]
        exact ⟨⟨rfl, trivial⟩, ⟨rfl, by simp [SV.sc]⟩, ⟨rfl, by simp [SV.sc]⟩, ⟨rfl, trivial⟩, ⟨rfl, trivial⟩, ⟨rfl, trivial⟩, ⟨rfl, by simp [SV.sc]⟩, ⟨rfl, by simp [SV.sc]⟩, ⟨rfl, by simp [SV.sc]⟩, ⟨rfl, trivial⟩, ⟨rfl, trivial⟩, trivial⟩
      · rw [em]
        exact ⟨⟨rfl, by omega, by simp [SObj.sc, Prm.cells, SV.scs, SV.sc]⟩, ⟨rfl, by omega, by simp [SObj.sc, Ste.cells, SV.scs, SV.sc]⟩, ⟨rfl, by omega, cellOf_sc _ _ _⟩, ⟨rfl, by omega, cellOf_sc _ _ _⟩, ⟨rfl, by omega, by simp [SObj.sc, Ste.cells, SV.scs, SV.sc]⟩, trivial⟩
  · obtain ⟨m1, m2, m3⟩ := mw_inv N
    refine Run.of_wpK (hc _ rfl) 1000 _ ?_
    conv => whnf
    refine Run.tick p (sq p s x N) x 3 hk rfl rfl rfl rfl rfl rfl rfl rfl rfl ?_
    refine Run.of_wpK (hc _ rfl) 1000 _ ?_
    conv => whnf
    have hwp : IntKind.i64.wrap ((N : Int) - ((mw N).1 : Int) + 1) = (N : Int) - ((mw N).1 : Int) + 1 := W_id (by omega) (by omega)
    rw [hwp]
    refine ⟨by kernel_rfl, ?_⟩
    conv => whnf
    cases hq : same (stepS p (sq p s x N) x) (sq p s x (mw N).1)
    · rw [show ((stepS p (sq p s x N) x).v == (sq p s x (mw N).1).v && ((stepS p (sq p s x N) x).rest == (sq p s x (mw N).1).rest && true)) = false from hq]
      have hN2 : 262144 < N + 1 := by
        rcases hN with hN | hN
        · have := (same_iff _ _).2 hN
          exact absurd (hq.symm.trans this) (by decide)
        · exact hN
      have hcyc : cycV p s x N mu = .tuple #[.int .i64 0, .int .i64 0, .int .i64 0, .int .i64 8] := if_neg (fun hc => absurd (hq.symm.trans hc) (by decide))
      conv => whnf
      cases hpw : ((N : Int) - ((mw N).1 : Int) + 1 == ((mw N).2 : Int))
      · conv => whnf
        rw [decide_eq_true (show (262144 : Int) < (N : Int) + 1 by omega)]
        conv => whnf
        refine ⟨fun ρ w' hW _ => ⟨?_, hW.toExt⟩⟩
        rw [hcyc]; rfl
      · conv => whnf
        rw [decide_eq_true (show (262144 : Int) < (N : Int) + 1 by omega)]
        conv => whnf
        refine ⟨fun ρ w' hW _ => ⟨?_, hW.toExt⟩⟩
        rw [hcyc]; rfl
    · rw [show ((stepS p (sq p s x N) x).v == (sq p s x (mw N).1).v && ((stepS p (sq p s x N) x).rest == (sq p s x (mw N).1).rest && true)) = true from hq]
      obtain ⟨hmu1, hmu2, hmu3⟩ := hmu ((same_iff _ _).1 hq)
      have hlam : (N : Int) - ((mw N).1 : Int) + 1 = ((N + 1 - (mw N).1 : Nat) : Int) := by omega
      rw [hlam]
      have hcyc : cycV p s x N mu = (if mu + (N + 1 - (mw N).1) ≤ 65536 then .tuple #[.int .i64 (mu : Int), .int .i64 ((N + 1 - (mw N).1 : Nat) : Int), .int .i64 (cnt p s x mu (N + 1 - (mw N).1) : Int), .int .i64 0] else .tuple #[.int .i64 0, .int .i64 0, .int .i64 0, .int .i64 8]) := if_pos hq
      have hl1 : N + 1 - (mw N).1 ≤ 262145 := by omega
      generalize N + 1 - (mw N).1 = lam at *
      conv => whnf
      refine Run.newCell p s h rfl rfl rfl rfl rfl rfl rfl rfl ?_
      refine Run.of_wpK (hc _ rfl) 1000 _ ?_
      conv => whnf
      refine Run.trimR 3 11 4 (by omega) (T' := [(2, ii x), (3, .ptr 0 0), (4, .ptr 1 0), (6, ii 0), (7, ii (lam : Int)), (8, ii 0), (10, .ptr 2 0), (11, .ptr 3 0), (65, ii (lam : Int)), (66, ii 0)]) (M' := [(0, .cells p.cells 23), (1, .cells s.cells 25), (2, .cells (cellOf p s) 63), (3, .cells (cellOf p s) 63)]) ⟨⟨rfl, trivial⟩, ⟨rfl, by simp [SV.sc]⟩, ⟨rfl, by simp [SV.sc]⟩, ⟨rfl, trivial⟩, ⟨rfl, trivial⟩, ⟨rfl, trivial⟩, ⟨rfl, by simp [SV.sc]⟩, ⟨rfl, by simp [SV.sc]⟩, ⟨rfl, trivial⟩, ⟨rfl, trivial⟩, trivial⟩ ⟨⟨rfl, by omega, by simp [SObj.sc, Prm.cells, SV.scs, SV.sc]⟩, ⟨rfl, by omega, by simp [SObj.sc, Ste.cells, SV.scs, SV.sc]⟩, ⟨rfl, by omega, cellOf_sc _ _ _⟩, ⟨rfl, by omega, cellOf_sc _ _ _⟩, trivial⟩ (fun q hq => by cases hq) ?_
      refine Run.upTo (T := fun i => [(2, ii x), (3, .ptr 0 0), (4, .ptr 1 0), (6, ii 0), (7, ii (lam : Int)), (8, ii 0), (10, .ptr 2 0), (11, .ptr 3 0), (65, ii (lam : Int)), (66, ii (i : Int))]) (M := fun i => [(0, .cells p.cells 23), (1, .cells s.cells 25), (2, .cells (cellOf p s) 63), (3, .cells (cellOf p (sq p s x i)) 63)]) lam ?_ ?_
      · intro i hi ih
        refine Run.of_wpK (hc _ rfl) 1000 _ ?_
        conv => whnf
        split
        · conv => whnf
          refine Run.tick p (sq p s x i) x 3 hk rfl rfl rfl rfl rfl rfl rfl rfl rfl ?_
          refine Run.of_wpK (hc _ rfl) 1000 _ ?_
          conv => whnf
          rw [wrap_succ (i := i) (by omega)]
          exact Run.trim (T' := [(2, ii x), (3, .ptr 0 0), (4, .ptr 1 0), (6, ii 0), (7, ii (lam : Int)), (8, ii 0), (10, .ptr 2 0), (11, .ptr 3 0), (65, ii (lam : Int)), (66, ii ((i + 1 : Nat) : Int))]) (M' := [(0, .cells p.cells 23), (1, .cells s.cells 25), (2, .cells (cellOf p s) 63), (3, .cells (cellOf p (sq p s x (i + 1))) 63)]) 4 ⟨⟨rfl, trivial⟩, ⟨rfl, by simp [SV.sc]⟩, ⟨rfl, by simp [SV.sc]⟩, ⟨rfl, trivial⟩, ⟨rfl, trivial⟩, ⟨rfl, trivial⟩, ⟨rfl, by simp [SV.sc]⟩, ⟨rfl, by simp [SV.sc]⟩, ⟨rfl, trivial⟩, ⟨rfl, trivial⟩, trivial⟩ ⟨⟨rfl, by omega, by simp [SObj.sc, Prm.cells, SV.scs, SV.sc]⟩, ⟨rfl, by omega, by simp [SObj.sc, Ste.cells, SV.scs, SV.sc]⟩, ⟨rfl, by omega, cellOf_sc _ _ _⟩, ⟨rfl, by omega, cellOf_sc _ _ _⟩, trivial⟩ (fun p hp => by cases hp) ih
        · rename_i hn; have := of_decide_eq_false hn; omega
      · refine Run.of_wpK (hc _ rfl) 1000 _ ?_
        conv => whnf
        split
        · rename_i hn; have := of_decide_eq_true hn; omega
        · conv => whnf
          refine Run.trim (T' := [(2, ii x), (3, .ptr 0 0), (4, .ptr 1 0), (6, ii 0), (7, ii (lam : Int)), (8, ii 0), (10, .ptr 2 0), (11, .ptr 3 0)]) (M' := [(0, .cells p.cells 23), (1, .cells s.cells 25), (2, .cells (cellOf p (sq p s x 0)) 63), (3, .cells (cellOf p (sq p s x (0 + lam))) 63)]) 4 ⟨⟨rfl, trivial⟩, ⟨rfl, by simp [SV.sc]⟩, ⟨rfl, by simp [SV.sc]⟩, ⟨rfl, trivial⟩, ⟨rfl, trivial⟩, ⟨rfl, trivial⟩, ⟨rfl, by simp [SV.sc]⟩, ⟨rfl, by simp [SV.sc]⟩, trivial⟩ (by rw [Nat.zero_add]; exact ⟨⟨rfl, by omega, by simp [SObj.sc, Prm.cells, SV.scs, SV.sc]⟩, ⟨rfl, by omega, by simp [SObj.sc, Ste.cells, SV.scs, SV.sc]⟩, ⟨rfl, by omega, cellOf_sc _ _ _⟩, ⟨rfl, by omega, cellOf_sc _ _ _⟩, trivial⟩) (fun p hp => by cases hp) ?_
          refine Run.upTo (T := fun i => [(2, ii x), (3, .ptr 0 0), (4, .ptr 1 0), (6, ii (i : Int)), (7, ii (lam : Int)), (8, ii 0), (10, .ptr 2 0), (11, .ptr 3 0)]) (M := fun i => [(0, .cells p.cells 23), (1, .cells s.cells 25), (2, .cells (cellOf p (sq p s x i)) 63), (3, .cells (cellOf p (sq p s x (i + lam))) 63)]) mu ?_ ?_
          · intro i hi ih
            have hns := hmu3 i hi
            have hq : same (sq p s x i) (sq p s x (i + lam)) = false := by
              cases hq : same (sq p s x i) (sq p s x (i + lam))
              · rfl
              · exact absurd ((same_iff _ _).1 hq) hns
            have hws : IntKind.i64.wrap (((i + 1 : Nat) : Int) + (lam : Int)) = ((i + 1 : Nat) : Int) + (lam : Int) := W_id (by omega) (by omega)
            refine Run.of_wpK (hc _ rfl) 1000 _ ?_
            conv => whnf
            refine ⟨by kernel_rfl, ?_⟩
            conv => whnf
            rw [show ((sq p s x i).v == (sq p s x (i + lam)).v && ((sq p s x i).rest == (sq p s x (i + lam)).rest && true)) = false from hq]
            conv => whnf
            refine Run.tick p (sq p s x i) x 2 hk rfl rfl rfl rfl rfl rfl rfl rfl rfl ?_
            refine Run.of_wpK (hc _ rfl) 1000 _ ?_
            conv => whnf
            refine Run.tick p (sq p s x (i + lam)) x 3 hk rfl rfl rfl rfl rfl rfl rfl rfl rfl ?_
            refine Run.of_wpK (hc _ rfl) 1000 _ ?_
            conv => whnf
            rw [wrap_succ (i := i) (by omega), hws]
            cases hb : decide ((65536 : Int) < ((i + 1 : Nat) : Int) + (lam : Int))
            · conv => whnf
              refine Run.trim (T' := [(2, ii x), (3, .ptr 0 0), (4, .ptr 1 0), (6, ii ((i + 1 : Nat) : Int)), (7, ii (lam : Int)), (8, ii 0), (10, .ptr 2 0), (11, .ptr 3 0)]) (M' := [(0, .cells p.cells 23), (1, .cells s.cells 25), (2, .cells (cellOf p (sq p s x (i + 1))) 63), (3, .cells (cellOf p (sq p s x (i + 1 + lam))) 63)]) 4 ⟨⟨rfl, trivial⟩, ⟨rfl, by simp [SV.sc]⟩, ⟨rfl, by simp [SV.sc]⟩, ⟨rfl, trivial⟩, ⟨rfl, trivial⟩, ⟨rfl, trivial⟩, ⟨rfl, by simp [SV.sc]⟩, ⟨rfl, by simp [SV.sc]⟩, trivial⟩ ?_ (fun p hp => by cases hp) ih
              rw [show i + 1 + lam = i + lam + 1 by omega]
              exact ⟨⟨rfl, by omega, by simp [SObj.sc, Prm.cells, SV.scs, SV.sc]⟩, ⟨rfl, by omega, by simp [SObj.sc, Ste.cells, SV.scs, SV.sc]⟩, ⟨rfl, by omega, cellOf_sc _ _ _⟩, ⟨rfl, by omega, cellOf_sc _ _ _⟩, trivial⟩
            · have hb := of_decide_eq_true hb
              conv => whnf
              refine ⟨fun ρ w' hW _ => ⟨?_, hW.toExt⟩⟩
              rw [hcyc, if_neg (by omega)]; rfl
          · have hq : same (sq p s x mu) (sq p s x (mu + lam)) = true := (same_iff _ _).2 hmu1
            have hws : IntKind.i64.wrap ((mu : Int) + (lam : Int)) = (mu : Int) + (lam : Int) := W_id (by omega) (by omega)
            refine Run.of_wpK (hc _ rfl) 1000 _ ?_
            conv => whnf
            refine ⟨by kernel_rfl, ?_⟩
            conv => whnf
            rw [show ((sq p s x mu).v == (sq p s x (mu + lam)).v && ((sq p s x mu).rest == (sq p s x (mu + lam)).rest && true)) = true from hq]
            conv => whnf
            rw [hws]
            cases hb : decide ((65536 : Int) < (mu : Int) + (lam : Int))
            · have hb := of_decide_eq_false hb
              have hle : mu + lam ≤ 65536 := by omega
              conv => whnf
              refine Run.trim (T' := [(2, ii x), (6, ii (mu : Int)), (7, ii (lam : Int)), (8, ii 0), (10, .ptr 2 0), (97, ii (lam : Int)), (98, ii 0)]) (M' := [(2, .cells (cellOf p (sq p s x mu)) 63)]) 4 ⟨⟨rfl, trivial⟩, ⟨rfl, trivial⟩, ⟨rfl, trivial⟩, ⟨rfl, trivial⟩, ⟨rfl, by simp [SV.sc]⟩, ⟨rfl, trivial⟩, ⟨rfl, trivial⟩, trivial⟩ ⟨⟨rfl, by omega, cellOf_sc _ _ _⟩, trivial⟩ (fun p hp => by cases hp) ?_
              refine Run.upTo (T := fun i => [(2, ii x), (6, ii (mu : Int)), (7, ii (lam : Int)), (8, ii (cnt p s x mu i : Int)), (10, .ptr 2 0), (97, ii (lam : Int)), (98, ii (i : Int))]) (M := fun i => [(2, .cells (cellOf p (sq p s x (mu + i))) 63)]) lam ?_ ?_
              · intro i hi ih
                have hci := cnt_le p s x mu i
                refine Run.of_wpK (hc _ rfl) 1000 _ ?_
                conv => whnf
                split
                · conv => whnf
                  refine Run.tick p (sq p s x (mu + i)) x 2 hk rfl rfl rfl rfl rfl rfl rfl rfl rfl ?_
                  refine Run.of_wpK (hc _ rfl) 1000 _ ?_
                  conv => whnf
                  cases hf : stepB p (sq p s x (mu + i)) x
                  · have ec : cnt p s x mu (i + 1) = cnt p s x mu i := by rw [cnt, hf]; rfl
                    conv => whnf
                    rw [wrap_succ (i := i) (by omega)]
                    refine Run.trim (T' := [(2, ii x), (6, ii (mu : Int)), (7, ii (lam : Int)), (8, ii (cnt p s x mu (i + 1) : Int)), (10, .ptr 2 0), (97, ii (lam : Int)), (98, ii ((i + 1 : Nat) : Int))]) (M' := [(2, .cells (cellOf p (sq p s x (mu + (i + 1)))) 63)]) 4 ?_ ⟨⟨rfl, by omega, cellOf_sc _ _ _⟩, trivial⟩ (fun p hp => by cases hp) ih
                    rw [ec]
                    exact ⟨⟨rfl, trivial⟩, ⟨rfl, trivial⟩, ⟨rfl, trivial⟩, ⟨rfl, trivial⟩, ⟨rfl, by simp [SV.sc]⟩, ⟨rfl, trivial⟩, ⟨rfl, trivial⟩, trivial⟩
                  · have ec : cnt p s x mu (i + 1) = cnt p s x mu i + 1 := by rw [cnt, hf]; rfl
                    conv => whnf
                    rw [wrap_succ (i := i) (by omega), wrap_succ (i := cnt p s x mu i) (by omega)]
                    refine Run.trim (T' := [(2, ii x), (6, ii (mu : Int)), (7, ii (lam : Int)), (8, ii (cnt p s x mu (i + 1) : Int)), (10, .ptr 2 0), (97, ii (lam : Int)), (98, ii ((i + 1 : Nat) : Int))]) (M' := [(2, .cells (cellOf p (sq p s x (mu + (i + 1)))) 63)]) 4 ?_ ⟨⟨rfl, by omega, cellOf_sc _ _ _⟩, trivial⟩ (fun p hp => by cases hp) ih
                    rw [ec]
                    exact ⟨⟨rfl, trivial⟩, ⟨rfl, trivial⟩, ⟨rfl, trivial⟩, ⟨rfl, trivial⟩, ⟨rfl, by simp [SV.sc]⟩, ⟨rfl, trivial⟩, ⟨rfl, trivial⟩, trivial⟩
                · rename_i hn; have := of_decide_eq_false hn; omega
              · refine Run.of_wpK (hc _ rfl) 1000 _ ?_
                conv => whnf
                split
                · rename_i hn; have := of_decide_eq_true hn; omega
                · conv => whnf
                  refine ⟨fun ρ w' hW _ => ⟨?_, hW.toExt⟩⟩
                  rw [hcyc, if_pos hle]; rfl
            · have hb := of_decide_eq_true hb
              conv => whnf
              refine ⟨fun ρ w' hW _ => ⟨?_, hW.toExt⟩⟩
              rw [hcyc, if_neg (by omega)]; rfl
end Go.Proofs.Ytoipnojibkjjnaa
