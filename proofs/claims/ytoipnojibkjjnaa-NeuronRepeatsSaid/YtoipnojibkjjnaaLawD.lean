/-
  Walk of the statement 'NeuronMore': it returns true.
  For every input; the world only gets new blocks.
-/
import Derived.Test.YtoipnojibkjjnaaLawA
import Derived.Test.YtoipnojibkjjnaaRefC
import Derived.Test.YtoipnojibkjjnaaPlainB
import Derived.Test.YtoipnojibkjjnaaArgs
namespace Go.Proofs.Ytoipnojibkjjnaa
open Go.Sx
set_option maxRecDepth 100000

theorem get_atK {k : IntKind} {xs : List Int} {i : Nat} (h : i < xs.length) : Sx.get (xs.map fun x => Value.int k x) (0 + idx (i : Int) 1) = some (.int k xs[i]) := by
  show Sx.get _ (0 + ((i : Int)).toNat) = _
  rw [Nat.zero_add, Int.toNat_natCast, get_eq, List.getElem?_map, List.getElem?_eq_getElem h]; rfl

/-- The second inputs. -/
def moreOf (xs ys : List Int) (i : Nat) : Int := xs.getD i 0 + ys.getD i 0
def stA (p : Prm) (v : Int) (xs : List Int) : Nat → Ste
  | 0 => ⟨v, 0⟩
  | i + 1 => stepS p (stA p v xs i) (xs.getD i 0)
def stB (p : Prm) (v : Int) (xs ys : List Int) : Nat → Ste
  | 0 => ⟨v, 0⟩
  | i + 1 => stepS p (stB p v xs ys i) (moreOf xs ys i)

theorem more_step {p : Prm} {a b : Ste} (ha : vld p a = 0) (hb : vld p b = 0) (ra : a.rest = 0) (rb : b.rest = 0) (hab : a.v ≤ b.v) {x y : Int} (hxy : x ≤ y) :
    (stepB p a x = true → stepB p b y = true) ∧ (stepB p b y = false → (stepS p a x).rest = 0 ∧ (stepS p b y).rest = 0 ∧ (stepS p a x).v ≤ (stepS p b y).v) := by
  obtain ⟨av, ar⟩ := a
  obtain ⟨bv, br⟩ := b
  simp only at ra rb hab
  subst ra rb
  obtain ⟨hg, hva, _⟩ := vld_good.1 ha
  obtain ⟨_, hvb, _⟩ := vld_good.1 hb
  simp only at hva hvb
  have hf := hg.floor
  have e1 := stepV_st hg (s := ⟨av, 0⟩) ⟨by simp only; omega, hva.2⟩ x
  have e2 := stepV_st hg (s := ⟨bv, 0⟩) ⟨by simp only; omega, hvb.2⟩ y
  have hm := st_mono hg hab hxy
  have hAB : stepB p ⟨av, 0⟩ x = true → stepB p ⟨bv, 0⟩ y = true := by
    unfold stepB
    rw [e1, e2]
    simp only [Int.lt_irrefl, if_false]
    intro h
    split at h
    · cases h
    · rename_i h1
      rw [if_neg (by omega)]
  refine ⟨hAB, fun h => ?_⟩
  have h' : stepB p ⟨av, 0⟩ x = false := by
    cases hc : stepB p ⟨av, 0⟩ x
    · rfl
    · rw [hAB hc] at h; cases h
  rw [step_rest0 hg hva x h', step_rest0 hg hvb y h]
  exact ⟨rfl, rfl, hm⟩

theorem tick_call (p : Prm) (s : Ste) (x : Int) (h : vld p s = 0) (w : World) : Calls Try.prog 15 #[p.sv.conc env0, s.sv.conc env0, .int .i64 x] w fun e w' => e = .returned (.tuple #[.agg #[.int .i64 (stepS p s x).v, .int .i64 (stepS p s x).rest], .bool (stepB p s x), .int .i64 0]) ∧ Ext w w' :=
  (Tick_run p s x w).mono fun e w' ⟨he, hx⟩ => ⟨by rw [he, tickV, if_pos h], hx⟩

theorem neuronMore_walk (w : World) (p : Prm) (_ : p.fits) (v : Int) (_ : I64 v) (ab : Int) (hab : 0 ≤ ab ∧ ab ≤ 65535) (v3 : Value) (xs : List Int) (hr3 : RowAt w v3 (xs.map fun x => .int .i32 x)) (hwx : ∀ n ∈ xs, (Lit.int .i32 n).wf = true) (_ : xs.length ≤ maxLen)
    (v4 : Value) (ys : List Int) (hr4 : RowAt w v4 (ys.map fun x => .int .u16 x)) (hwy : ∀ n ∈ ys, (Lit.int .u16 n).wf = true) (_ : ys.length ≤ maxLen) :
    Calls Try.prog 6 #[p.sv.conc env0, .int .i64 v, .int .u16 ab, v3, v4] w fun e w' => e = .returned (.bool true) ∧ Ext w w' := by
  obtain ⟨vd, hvd⟩ : ∃ vd : Prm → Ste → Int, vld = vd := ⟨vld, rfl⟩
  obtain ⟨pfm, hpm⟩ : ∃ pfm : PF, pfm = (21, FPS fun p s => .int .i64 (vd p s)) :: pfW := ⟨_, rfl⟩
  have hpf : PF.oks Try.prog pfm := by rw [hpm, ← hvd]; exact ⟨valid_pure, pfW_ok⟩
  subst hpm
  have hc : ∀ (q : Cx), q = ⟨Try.prog, tab, (21, FPS fun p s => .int .i64 (vd p s)) :: pfW, 6, Try.f6, cuts6, w, [], none⟩ → q.ok := by
    rintro _ rfl
    exact ⟨tab_ok, hpf, Try.func6, mixed, fun _ h => by cases h⟩
  have hx32 : ∀ i, -2147483648 ≤ xs.getD i 0 ∧ xs.getD i 0 ≤ 2147483647 := fun i => range_i32 hwx i
  have hy16 : ∀ i, 0 ≤ ys.getD i 0 ∧ ys.getD i 0 ≤ 65535 := fun i => range_u16 hwy i
  by_cases hx0 : xs = []
  · subst hx0
    obtain ⟨p3, c3, rfl⟩ := hr3.len
    obtain ⟨p4, c4, rfl⟩ := hr4.len
    refine Run.start0 (tab := tab) (pf := (21, FPS fun p s => .int .i64 (vd p s)) :: pfW) (cuts := cuts6) mixed tab_ok hpf Try.func6 rfl [p.sv, ii v, .v (.int .u16 ab), .v (.slice p3 0 c3), .v (.slice p4 _ c4)] 1000 (by simp [SV.scs, SV.sc, Prm.sv, Prm.cells]) rfl ?_
    conv => whnf
    cases h2 : decide ((1048576 : Int) < v)
    · conv => whnf
      cases h3 : decide (v < -1048576)
      · conv => whnf
        cases h4 : vd ⟨p.lk, p.leak, p.bias, p.thr, p.rk, p.reset, p.floor, p.rest⟩ ⟨v, 0⟩ != 0
        · conv => whnf
          cases h5 : vd ⟨p.lk, p.leak, p.bias, p.thr, p.rk, p.reset, p.floor, p.rest⟩ ⟨IntKind.i64.wrap (v + IntKind.i64.wrap ab), 0⟩ != 0
          · conv => whnf
            refine Run.of_wpK (hc _ rfl) 1000 _ ?_
            conv => whnf
            exact ⟨fun ρ w' hW _ => ⟨rfl, hW.toExt⟩⟩
          · conv => whnf
            exact ⟨fun ρ w' hW _ => ⟨rfl, hW.toExt⟩⟩
        · conv => whnf
          exact ⟨fun ρ w' hW _ => ⟨rfl, hW.toExt⟩⟩
      · conv => whnf
        exact ⟨fun ρ w' hW _ => ⟨rfl, hW.toExt⟩⟩
    · conv => whnf
      exact ⟨fun ρ w' hW _ => ⟨rfl, hW.toExt⟩⟩
  · have hb3 := fun k => hr3.blk (by simpa using hx0) (k := k)
    rcases hr3 with ⟨_, h⟩ | ⟨blk, off, c1, rfl, h1⟩
    · exact absurd h (by simpa using hx0)
    have hl1 : (xs.map fun x => Value.int .i32 x).length = xs.length := by simp
    rw [hl1]
    by_cases hys : ys = []
    · have hW0 := two_start (ys := ys.map fun x => .int .u16 x) (hb3 blk rfl) (hb3 blk rfl) h1 (o2 := 0) (fun j x hj => by rw [hys] at hj; simp at hj)
      obtain ⟨p4, c4, rfl⟩ := hr4.len
      have hl2 : (ys.map fun x => Value.int .u16 x).length = 0 := by rw [hys]; rfl
      rw [hl2]
      have ha : #[p.sv.conc env0, .int .i64 v, .int .u16 ab, .slice (some ⟨blk, off, none⟩) xs.length c1, .slice p4 0 c4] = (SV.concs (env2 blk off blk 0) [p.sv, ii v, .v (.int .u16 ab), .slc 0 0 xs.length c1, .v (.slice p4 0 c4)]).toArray := by simp [SV.concs, SV.conc, env2, Prm.sv, Prm.cells]
      rw [ha]
      refine Run.calls (tab := tab) (pf := (21, FPS fun p s => .int .i64 (vd p s)) :: pfW) (cuts := cuts6) Try.func6 rfl (env2 blk off blk 0) [p.sv, ii v, .v (.int .u16 ab), .slc 0 0 xs.length c1, .v (.slice p4 0 c4)] _ 2 (by simp [SV.scs, SV.sc, Prm.sv, Prm.cells]) rfl hW0 (Run.of_wpK (hc _ rfl) 2000 _ ?_)
      conv => whnf
      cases h1 : decide ((1000 : Int) < (xs.length : Int))
      · have h1 := of_decide_eq_false h1
        conv => whnf
        cases h2 : decide ((1048576 : Int) < v)
        · have h2 := of_decide_eq_false h2
          conv => whnf
          cases h3 : decide (v < -1048576)
          · have h3 := of_decide_eq_false h3
            have hw0 : IntKind.i64.wrap ab = ab := W_id (by omega) (by omega)
            have hw1 : IntKind.i64.wrap (v + IntKind.i64.wrap ab) = v + ab := by rw [hw0]; exact W_id (by omega) (by omega)
            conv => whnf
            cases h4 : vd ⟨p.lk, p.leak, p.bias, p.thr, p.rk, p.reset, p.floor, p.rest⟩ ⟨v, 0⟩ != 0
            · have hva : vld p ⟨v, 0⟩ = 0 := by rw [hvd]; simpa using h4
              conv => whnf
              cases h5 : vd ⟨p.lk, p.leak, p.bias, p.thr, p.rk, p.reset, p.floor, p.rest⟩ ⟨IntKind.i64.wrap (v + IntKind.i64.wrap ab), 0⟩ != 0
              · have hvb : vld p ⟨v + ab, 0⟩ = 0 := by rw [hvd]; rw [hw1] at h5; simpa using h5
                conv => whnf
                rw [hw1]
                refine Run.trim (T' := [(3, .slc 0 0 xs.length c1), (4, .v (.slice p4 0 c4)), (5, .ptr 2 0), (11, .ptr 3 0), (12, .ptr 4 0), (13, ii 0)]) (M' := [(0, .win (xs.map fun x => .int .i32 x)), (1, .win (ys.map fun x => .int .u16 x)), (2, .cells p.cells 23), (3, .cells (stA p v xs 0).cells 25), (4, .cells (stB p (v + ab) xs ys 0).cells 25)]) 5 ⟨⟨rfl, by simp [SV.sc]⟩, ⟨rfl, by simp [SV.sc]⟩, ⟨rfl, by simp [SV.sc]⟩, ⟨rfl, by simp [SV.sc]⟩, ⟨rfl, by simp [SV.sc]⟩, ⟨rfl, trivial⟩, trivial⟩ ⟨⟨rfl, by omega, trivial⟩, ⟨rfl, by omega, trivial⟩, ⟨rfl, by omega, by simp [SObj.sc, Prm.cells, SV.scs, SV.sc]⟩, ⟨rfl, by omega, by simp [SObj.sc, Ste.cells, SV.scs, SV.sc]⟩, ⟨rfl, by omega, by simp [SObj.sc, Ste.cells, SV.scs, SV.sc]⟩, trivial⟩ (fun p hp => by cases hp) ?_
                refine Run.count (cx := fun _ => _) (T := fun i => [(3, .slc 0 0 xs.length c1), (4, .v (.slice p4 0 c4)), (5, .ptr 2 0), (11, .ptr 3 0), (12, .ptr 4 0), (13, ii (i : Int))]) (M := fun i => [(0, .win (xs.map fun x => .int .i32 x)), (1, .win (ys.map fun x => .int .u16 x)), (2, .cells p.cells 23), (3, .cells (stA p v xs i).cells 25), (4, .cells (stB p (v + ab) xs ys i).cells 25)])
                  (J := fun i _ => vld p (stA p v xs i) = 0 ∧ vld p (stB p (v + ab) xs ys i) = 0 ∧ (stA p v xs i).rest = 0 ∧ (stB p (v + ab) xs ys i).rest = 0 ∧ (stA p v xs i).v ≤ (stB p (v + ab) xs ys i).v) xs.length ?_ ?_ 0 w (Nat.zero_le _) ⟨hva, hvb, rfl, rfl, by show v ≤ v + ab; omega⟩
                · intro i w' hi ⟨ja, jb, ra, rb, jab⟩ ih
                  have hxd : xs.getD i 0 = xs[i] := by rw [List.getD_eq_getElem?_getD, List.getElem?_eq_getElem hi]; rfl
                  have h32 := hx32 i
                  have hwx : IntKind.i64.wrap xs[i] = xs.getD i 0 := by
                    have := W_id (a := xs[i]) (by omega) (by omega)
                    rw [hxd]; exact this
                  refine Run.of_wpK (hc _ rfl) 1000 _ ?_
                  conv => whnf
                  split
                  · conv => whnf
                    refine ⟨⟨by omega, by omega⟩, ?_⟩
                    conv => whnf
                    rw [opF_load_win rfl rfl rfl rfl (get_atK hi)]
                    conv => whnf
                    cases h6 : decide ((i : Int) < 0)
                    · conv => whnf
                      rw [hwx]
                      have hxy : xs.getD i 0 ≤ xs.getD i 0 := Int.le_refl _
                      have hBs : stB p (v + ab) xs ys (i + 1) = stepS p (stB p (v + ab) xs ys i) (xs.getD i 0) := by
                        show stepS p (stB p (v + ab) xs ys i) (moreOf xs ys i) = _
                        rw [moreOf, hys]
                        show stepS p _ (_ + 0) = _
                        rw [Int.add_zero]
                      refine Run.callE (g := 15) (vs := [p.sv, (stA p v xs i).sv, ii (xs.getD i 0)]) (caps := []) (.tup [.agg [ii (stepS p (stA p v xs i) (xs.getD i 0)).v, ii (stepS p (stA p v xs i) (xs.getD i 0)).rest], .v (.bool (stepB p (stA p v xs i) (xs.getD i 0))), ii 0]) (fun ρ w _ => (tick_call p _ _ ja w).mono fun _ w' ⟨he, hx⟩ => ⟨by rw [he]; rfl, hx⟩) (ent _ _ Try.func15 (by kernel_rfl) rfl) rfl rfl rfl rfl rfl rfl rfl ⟨⟨trivial, trivial, trivial⟩, trivial, trivial, trivial⟩ ?_
                      refine Run.of_wpK (hc _ rfl) 1000 _ ?_
                      conv => whnf
                      refine Run.callE (g := 15) (vs := [p.sv, (stB p (v + ab) xs ys i).sv, ii (xs.getD i 0)]) (caps := []) (.tup [.agg [ii (stepS p (stB p (v + ab) xs ys i) (xs.getD i 0)).v, ii (stepS p (stB p (v + ab) xs ys i) (xs.getD i 0)).rest], .v (.bool (stepB p (stB p (v + ab) xs ys i) (xs.getD i 0))), ii 0]) (fun ρ w _ => (tick_call p _ _ jb w).mono fun _ w' ⟨he, hx⟩ => ⟨by rw [he]; rfl, hx⟩) (ent _ _ Try.func15 (by kernel_rfl) rfl) rfl rfl rfl rfl rfl rfl rfl ⟨⟨trivial, trivial, trivial⟩, trivial, trivial, trivial⟩ ?_
                      refine Run.of_wpK (hc _ rfl) 1000 _ ?_
                      conv => whnf
                      obtain ⟨m1, m2⟩ := more_step ja jb ra rb jab (x := xs.getD i 0) (y := (xs.getD i 0)) hxy
                      have hB : stB p (v + ab) xs ys (i + 1) = stepS p (stB p (v + ab) xs ys i) (xs.getD i 0) := hBs
                      have hA : stA p v xs (i + 1) = stepS p (stA p v xs i) (xs.getD i 0) := rfl
                      have va := vld_step ja (xs.getD i 0)
                      have vb := vld_step jb (xs.getD i 0)
                      generalize stepS p (stA p v xs i) (xs.getD i 0) = sa at *
                      generalize stepS p (stB p (v + ab) xs ys i) (xs.getD i 0) = sb at *
                      generalize stepB p (stA p v xs i) (xs.getD i 0) = fa at *
                      generalize stepB p (stB p (v + ab) xs ys i) (xs.getD i 0) = fb at *
                      cases fb
                      · have hfa : fa = false := by
                          cases fa
                          · rfl
                          · exact (m1 rfl).symm
                        subst hfa
                        obtain ⟨q1, q2, q3⟩ := m2 rfl
                        conv => whnf
                        cases h7 : decide (sb.v < sa.v)
                        · conv => whnf
                          refine ⟨by kernel_rfl, ?_⟩
                          conv => whnf
                          rw [wrap_succ (by omega)]
                          refine Run.trim (T' := [(3, .slc 0 0 xs.length c1), (4, .v (.slice p4 0 c4)), (5, .ptr 2 0), (11, .ptr 3 0), (12, .ptr 4 0), (13, ii ((i + 1 : Nat) : Int))]) (M' := [(0, .win (xs.map fun x => .int .i32 x)), (1, .win (ys.map fun x => .int .u16 x)), (2, .cells p.cells 23), (3, .cells (stA p v xs (i + 1)).cells 25), (4, .cells (stB p (v + ab) xs ys (i + 1)).cells 25)]) 5 ⟨⟨rfl, by simp [SV.sc]⟩, ⟨rfl, by simp [SV.sc]⟩, ⟨rfl, by simp [SV.sc]⟩, ⟨rfl, by simp [SV.sc]⟩, ⟨rfl, by simp [SV.sc]⟩, ⟨rfl, trivial⟩, trivial⟩ ?_ (fun p hp => by cases hp) (ih w' ⟨by rw [hA]; exact va, by rw [hB]; exact vb, by rw [hA]; exact q1, by rw [hB]; exact q2, by rw [hA, hB]; exact q3⟩)
                          rw [hA, hB]
                          exact ⟨⟨rfl, by omega, trivial⟩, ⟨rfl, by omega, trivial⟩, ⟨rfl, by omega, by simp [SObj.sc, Prm.cells, SV.scs, SV.sc]⟩, ⟨rfl, by omega, by simp [SObj.sc, Ste.cells, SV.scs, SV.sc]⟩, ⟨rfl, by omega, by simp [SObj.sc, Ste.cells, SV.scs, SV.sc]⟩, trivial⟩
                        · have := of_decide_eq_true h7
                          omega
                      · cases fa
                        · conv => whnf
                          exact ⟨fun ρ w' hW _ => ⟨rfl, hW.toExt⟩⟩
                        · conv => whnf
                          exact ⟨fun ρ w' hW _ => ⟨rfl, hW.toExt⟩⟩
                    · have := of_decide_eq_true h6
                      omega
                  · rename_i hn; have := of_decide_eq_false hn; omega
                · intro w' _
                  refine Run.of_wpK (hc _ rfl) 1000 _ ?_
                  conv => whnf
                  split
                  · rename_i hn; have := of_decide_eq_true hn; omega
                  · conv => whnf
                    exact ⟨fun ρ w' hW _ => ⟨rfl, hW.toExt⟩⟩
              · conv => whnf
                exact ⟨fun ρ w' hW _ => ⟨rfl, hW.toExt⟩⟩
            · conv => whnf
              exact ⟨fun ρ w' hW _ => ⟨rfl, hW.toExt⟩⟩
          · conv => whnf
            exact ⟨fun ρ w' hW _ => ⟨rfl, hW.toExt⟩⟩
        · conv => whnf
          exact ⟨fun ρ w' hW _ => ⟨rfl, hW.toExt⟩⟩
      · conv => whnf
        exact ⟨fun ρ w' hW _ => ⟨rfl, hW.toExt⟩⟩
    · have hb4 := fun k => hr4.blk (by simpa using hys) (k := k)
      rcases hr4 with ⟨_, h⟩ | ⟨blk2, off2, c2, rfl, h2⟩
      · exact absurd h (by simpa using hys)
      have hl2 : (ys.map fun x => Value.int .u16 x).length = ys.length := by simp
      have hW0 := two_start (hb3 blk rfl) (hb4 blk2 rfl) h1 h2
      rw [hl2]
      have ha : #[p.sv.conc env0, .int .i64 v, .int .u16 ab, .slice (some ⟨blk, off, none⟩) xs.length c1, .slice (some ⟨blk2, off2, none⟩) ys.length c2] = (SV.concs (env2 blk off blk2 off2) [p.sv, ii v, .v (.int .u16 ab), .slc 0 0 xs.length c1, .slc 1 0 ys.length c2]).toArray := by simp [SV.concs, SV.conc, env2, Prm.sv, Prm.cells]
      rw [ha]
      refine Run.calls (tab := tab) (pf := (21, FPS fun p s => .int .i64 (vd p s)) :: pfW) (cuts := cuts6) Try.func6 rfl (env2 blk off blk2 off2) [p.sv, ii v, .v (.int .u16 ab), .slc 0 0 xs.length c1, .slc 1 0 ys.length c2] _ 2 (by simp [SV.scs, SV.sc, Prm.sv, Prm.cells]) rfl hW0 (Run.of_wpK (hc _ rfl) 2000 _ ?_)
      conv => whnf
      cases h1 : decide ((1000 : Int) < (xs.length : Int))
      · have h1 := of_decide_eq_false h1
        conv => whnf
        cases h2 : decide ((1048576 : Int) < v)
        · have h2 := of_decide_eq_false h2
          conv => whnf
          cases h3 : decide (v < -1048576)
          · have h3 := of_decide_eq_false h3
            have hw0 : IntKind.i64.wrap ab = ab := W_id (by omega) (by omega)
            have hw1 : IntKind.i64.wrap (v + IntKind.i64.wrap ab) = v + ab := by rw [hw0]; exact W_id (by omega) (by omega)
            conv => whnf
            cases h4 : vd ⟨p.lk, p.leak, p.bias, p.thr, p.rk, p.reset, p.floor, p.rest⟩ ⟨v, 0⟩ != 0
            · have hva : vld p ⟨v, 0⟩ = 0 := by rw [hvd]; simpa using h4
              conv => whnf
              cases h5 : vd ⟨p.lk, p.leak, p.bias, p.thr, p.rk, p.reset, p.floor, p.rest⟩ ⟨IntKind.i64.wrap (v + IntKind.i64.wrap ab), 0⟩ != 0
              · have hvb : vld p ⟨v + ab, 0⟩ = 0 := by rw [hvd]; rw [hw1] at h5; simpa using h5
                conv => whnf
                rw [hw1]
                refine Run.trim (T' := [(3, .slc 0 0 xs.length c1), (4, .slc 1 0 ys.length c2), (5, .ptr 2 0), (11, .ptr 3 0), (12, .ptr 4 0), (13, ii 0)]) (M' := [(0, .win (xs.map fun x => .int .i32 x)), (1, .win (ys.map fun x => .int .u16 x)), (2, .cells p.cells 23), (3, .cells (stA p v xs 0).cells 25), (4, .cells (stB p (v + ab) xs ys 0).cells 25)]) 5 ⟨⟨rfl, by simp [SV.sc]⟩, ⟨rfl, by simp [SV.sc]⟩, ⟨rfl, by simp [SV.sc]⟩, ⟨rfl, by simp [SV.sc]⟩, ⟨rfl, by simp [SV.sc]⟩, ⟨rfl, trivial⟩, trivial⟩ ⟨⟨rfl, by omega, trivial⟩, ⟨rfl, by omega, trivial⟩, ⟨rfl, by omega, by simp [SObj.sc, Prm.cells, SV.scs, SV.sc]⟩, ⟨rfl, by omega, by simp [SObj.sc, Ste.cells, SV.scs, SV.sc]⟩, ⟨rfl, by omega, by simp [SObj.sc, Ste.cells, SV.scs, SV.sc]⟩, trivial⟩ (fun p hp => by cases hp) ?_
                refine Run.count (cx := fun _ => _) (T := fun i => [(3, .slc 0 0 xs.length c1), (4, .slc 1 0 ys.length c2), (5, .ptr 2 0), (11, .ptr 3 0), (12, .ptr 4 0), (13, ii (i : Int))]) (M := fun i => [(0, .win (xs.map fun x => .int .i32 x)), (1, .win (ys.map fun x => .int .u16 x)), (2, .cells p.cells 23), (3, .cells (stA p v xs i).cells 25), (4, .cells (stB p (v + ab) xs ys i).cells 25)])
                  (J := fun i _ => vld p (stA p v xs i) = 0 ∧ vld p (stB p (v + ab) xs ys i) = 0 ∧ (stA p v xs i).rest = 0 ∧ (stB p (v + ab) xs ys i).rest = 0 ∧ (stA p v xs i).v ≤ (stB p (v + ab) xs ys i).v) xs.length ?_ ?_ 0 w (Nat.zero_le _) ⟨hva, hvb, rfl, rfl, by show v ≤ v + ab; omega⟩
                · intro i w' hi ⟨ja, jb, ra, rb, jab⟩ ih
                  have hxd : xs.getD i 0 = xs[i] := by rw [List.getD_eq_getElem?_getD, List.getElem?_eq_getElem hi]; rfl
                  have h32 := hx32 i
                  have hwx : IntKind.i64.wrap xs[i] = xs.getD i 0 := by
                    have := W_id (a := xs[i]) (by omega) (by omega)
                    rw [hxd]; exact this
                  refine Run.of_wpK (hc _ rfl) 1000 _ ?_
                  conv => whnf
                  split
                  · conv => whnf
                    refine ⟨⟨by omega, by omega⟩, ?_⟩
                    conv => whnf
                    rw [opF_load_win rfl rfl rfl rfl (get_atK hi)]
                    conv => whnf
                    cases h6 : decide ((i : Int) < (ys.length : Int))
                    · have h6 := of_decide_eq_false h6
                      conv => whnf
                      rw [hwx]
                      have hy0 : ys.getD i 0 = 0 := by rw [List.getD_eq_getElem?_getD, List.getElem?_eq_none (by omega)]; rfl
                      have hxy : xs.getD i 0 ≤ xs.getD i 0 := Int.le_refl _
                      have hBs : stB p (v + ab) xs ys (i + 1) = stepS p (stB p (v + ab) xs ys i) (xs.getD i 0) := by
                        show stepS p (stB p (v + ab) xs ys i) (moreOf xs ys i) = _
                        rw [moreOf, hy0, Int.add_zero]
                      refine Run.callE (g := 15) (vs := [p.sv, (stA p v xs i).sv, ii (xs.getD i 0)]) (caps := []) (.tup [.agg [ii (stepS p (stA p v xs i) (xs.getD i 0)).v, ii (stepS p (stA p v xs i) (xs.getD i 0)).rest], .v (.bool (stepB p (stA p v xs i) (xs.getD i 0))), ii 0]) (fun ρ w _ => (tick_call p _ _ ja w).mono fun _ w' ⟨he, hx⟩ => ⟨by rw [he]; rfl, hx⟩) (ent _ _ Try.func15 (by kernel_rfl) rfl) rfl rfl rfl rfl rfl rfl rfl ⟨⟨trivial, trivial, trivial⟩, trivial, trivial, trivial⟩ ?_
                      refine Run.of_wpK (hc _ rfl) 1000 _ ?_
                      conv => whnf
                      refine Run.callE (g := 15) (vs := [p.sv, (stB p (v + ab) xs ys i).sv, ii (xs.getD i 0)]) (caps := []) (.tup [.agg [ii (stepS p (stB p (v + ab) xs ys i) (xs.getD i 0)).v, ii (stepS p (stB p (v + ab) xs ys i) (xs.getD i 0)).rest], .v (.bool (stepB p (stB p (v + ab) xs ys i) (xs.getD i 0))), ii 0]) (fun ρ w _ => (tick_call p _ _ jb w).mono fun _ w' ⟨he, hx⟩ => ⟨by rw [he]; rfl, hx⟩) (ent _ _ Try.func15 (by kernel_rfl) rfl) rfl rfl rfl rfl rfl rfl rfl ⟨⟨trivial, trivial, trivial⟩, trivial, trivial, trivial⟩ ?_
                      refine Run.of_wpK (hc _ rfl) 1000 _ ?_
                      conv => whnf
                      obtain ⟨m1, m2⟩ := more_step ja jb ra rb jab (x := xs.getD i 0) (y := (xs.getD i 0)) hxy
                      have hB : stB p (v + ab) xs ys (i + 1) = stepS p (stB p (v + ab) xs ys i) (xs.getD i 0) := hBs
                      have hA : stA p v xs (i + 1) = stepS p (stA p v xs i) (xs.getD i 0) := rfl
                      have va := vld_step ja (xs.getD i 0)
                      have vb := vld_step jb (xs.getD i 0)
                      generalize stepS p (stA p v xs i) (xs.getD i 0) = sa at *
                      generalize stepS p (stB p (v + ab) xs ys i) (xs.getD i 0) = sb at *
                      generalize stepB p (stA p v xs i) (xs.getD i 0) = fa at *
                      generalize stepB p (stB p (v + ab) xs ys i) (xs.getD i 0) = fb at *
                      cases fb
                      · have hfa : fa = false := by
                          cases fa
                          · rfl
                          · exact (m1 rfl).symm
                        subst hfa
                        obtain ⟨q1, q2, q3⟩ := m2 rfl
                        conv => whnf
                        cases h7 : decide (sb.v < sa.v)
                        · conv => whnf
                          refine ⟨by kernel_rfl, ?_⟩
                          conv => whnf
                          rw [wrap_succ (by omega)]
                          refine Run.trim (T' := [(3, .slc 0 0 xs.length c1), (4, .slc 1 0 ys.length c2), (5, .ptr 2 0), (11, .ptr 3 0), (12, .ptr 4 0), (13, ii ((i + 1 : Nat) : Int))]) (M' := [(0, .win (xs.map fun x => .int .i32 x)), (1, .win (ys.map fun x => .int .u16 x)), (2, .cells p.cells 23), (3, .cells (stA p v xs (i + 1)).cells 25), (4, .cells (stB p (v + ab) xs ys (i + 1)).cells 25)]) 5 ⟨⟨rfl, by simp [SV.sc]⟩, ⟨rfl, by simp [SV.sc]⟩, ⟨rfl, by simp [SV.sc]⟩, ⟨rfl, by simp [SV.sc]⟩, ⟨rfl, by simp [SV.sc]⟩, ⟨rfl, trivial⟩, trivial⟩ ?_ (fun p hp => by cases hp) (ih w' ⟨by rw [hA]; exact va, by rw [hB]; exact vb, by rw [hA]; exact q1, by rw [hB]; exact q2, by rw [hA, hB]; exact q3⟩)
                          rw [hA, hB]
                          exact ⟨⟨rfl, by omega, trivial⟩, ⟨rfl, by omega, trivial⟩, ⟨rfl, by omega, by simp [SObj.sc, Prm.cells, SV.scs, SV.sc]⟩, ⟨rfl, by omega, by simp [SObj.sc, Ste.cells, SV.scs, SV.sc]⟩, ⟨rfl, by omega, by simp [SObj.sc, Ste.cells, SV.scs, SV.sc]⟩, trivial⟩
                        · have := of_decide_eq_true h7
                          omega
                      · cases fa
                        · conv => whnf
                          exact ⟨fun ρ w' hW _ => ⟨rfl, hW.toExt⟩⟩
                        · conv => whnf
                          exact ⟨fun ρ w' hW _ => ⟨rfl, hW.toExt⟩⟩
                    · have h6 := of_decide_eq_true h6
                      have hi' : i < ys.length := by omega
                      conv => whnf
                      refine ⟨⟨by omega, by omega⟩, ?_⟩
                      conv => whnf
                      rw [opF_load_win rfl rfl rfl rfl (get_atK hi')]
                      conv => whnf
                      have hyd : ys.getD i 0 = ys[i] := by rw [List.getD_eq_getElem?_getD, List.getElem?_eq_getElem hi']; rfl
                      have h16 := hy16 i
                      have hwy : IntKind.i64.wrap ys[i] = ys.getD i 0 := by
                        have := W_id (a := ys[i]) (by omega) (by omega)
                        rw [hyd]; exact this
                      have hws : IntKind.i64.wrap (xs.getD i 0 + ys.getD i 0) = moreOf xs ys i := W_id (by omega) (by omega)
                      rw [hwx, hwy, hws]
                      have hxy : xs.getD i 0 ≤ moreOf xs ys i := by unfold moreOf; omega
                      have hBs : stB p (v + ab) xs ys (i + 1) = stepS p (stB p (v + ab) xs ys i) (moreOf xs ys i) := rfl
                      refine Run.callE (g := 15) (vs := [p.sv, (stA p v xs i).sv, ii (xs.getD i 0)]) (caps := []) (.tup [.agg [ii (stepS p (stA p v xs i) (xs.getD i 0)).v, ii (stepS p (stA p v xs i) (xs.getD i 0)).rest], .v (.bool (stepB p (stA p v xs i) (xs.getD i 0))), ii 0]) (fun ρ w _ => (tick_call p _ _ ja w).mono fun _ w' ⟨he, hx⟩ => ⟨by rw [he]; rfl, hx⟩) (ent _ _ Try.func15 (by kernel_rfl) rfl) rfl rfl rfl rfl rfl rfl rfl ⟨⟨trivial, trivial, trivial⟩, trivial, trivial, trivial⟩ ?_
                      refine Run.of_wpK (hc _ rfl) 1000 _ ?_
                      conv => whnf
                      refine Run.callE (g := 15) (vs := [p.sv, (stB p (v + ab) xs ys i).sv, ii (moreOf xs ys i)]) (caps := []) (.tup [.agg [ii (stepS p (stB p (v + ab) xs ys i) (moreOf xs ys i)).v, ii (stepS p (stB p (v + ab) xs ys i) (moreOf xs ys i)).rest], .v (.bool (stepB p (stB p (v + ab) xs ys i) (moreOf xs ys i))), ii 0]) (fun ρ w _ => (tick_call p _ _ jb w).mono fun _ w' ⟨he, hx⟩ => ⟨by rw [he]; rfl, hx⟩) (ent _ _ Try.func15 (by kernel_rfl) rfl) rfl rfl rfl rfl rfl rfl rfl ⟨⟨trivial, trivial, trivial⟩, trivial, trivial, trivial⟩ ?_
                      refine Run.of_wpK (hc _ rfl) 1000 _ ?_
                      conv => whnf
                      obtain ⟨m1, m2⟩ := more_step ja jb ra rb jab (x := xs.getD i 0) (y := (moreOf xs ys i)) hxy
                      have hB : stB p (v + ab) xs ys (i + 1) = stepS p (stB p (v + ab) xs ys i) (moreOf xs ys i) := hBs
                      have hA : stA p v xs (i + 1) = stepS p (stA p v xs i) (xs.getD i 0) := rfl
                      have va := vld_step ja (xs.getD i 0)
                      have vb := vld_step jb (moreOf xs ys i)
                      generalize stepS p (stA p v xs i) (xs.getD i 0) = sa at *
                      generalize stepS p (stB p (v + ab) xs ys i) (moreOf xs ys i) = sb at *
                      generalize stepB p (stA p v xs i) (xs.getD i 0) = fa at *
                      generalize stepB p (stB p (v + ab) xs ys i) (moreOf xs ys i) = fb at *
                      cases fb
                      · have hfa : fa = false := by
                          cases fa
                          · rfl
                          · exact (m1 rfl).symm
                        subst hfa
                        obtain ⟨q1, q2, q3⟩ := m2 rfl
                        conv => whnf
                        cases h7 : decide (sb.v < sa.v)
                        · conv => whnf
                          refine ⟨by kernel_rfl, ?_⟩
                          conv => whnf
                          rw [wrap_succ (by omega)]
                          refine Run.trim (T' := [(3, .slc 0 0 xs.length c1), (4, .slc 1 0 ys.length c2), (5, .ptr 2 0), (11, .ptr 3 0), (12, .ptr 4 0), (13, ii ((i + 1 : Nat) : Int))]) (M' := [(0, .win (xs.map fun x => .int .i32 x)), (1, .win (ys.map fun x => .int .u16 x)), (2, .cells p.cells 23), (3, .cells (stA p v xs (i + 1)).cells 25), (4, .cells (stB p (v + ab) xs ys (i + 1)).cells 25)]) 5 ⟨⟨rfl, by simp [SV.sc]⟩, ⟨rfl, by simp [SV.sc]⟩, ⟨rfl, by simp [SV.sc]⟩, ⟨rfl, by simp [SV.sc]⟩, ⟨rfl, by simp [SV.sc]⟩, ⟨rfl, trivial⟩, trivial⟩ ?_ (fun p hp => by cases hp) (ih w' ⟨by rw [hA]; exact va, by rw [hB]; exact vb, by rw [hA]; exact q1, by rw [hB]; exact q2, by rw [hA, hB]; exact q3⟩)
                          rw [hA, hB]
                          exact ⟨⟨rfl, by omega, trivial⟩, ⟨rfl, by omega, trivial⟩, ⟨rfl, by omega, by simp [SObj.sc, Prm.cells, SV.scs, SV.sc]⟩, ⟨rfl, by omega, by simp [SObj.sc, Ste.cells, SV.scs, SV.sc]⟩, ⟨rfl, by omega, by simp [SObj.sc, Ste.cells, SV.scs, SV.sc]⟩, trivial⟩
                        · have := of_decide_eq_true h7
                          omega
                      · cases fa
                        · conv => whnf
                          exact ⟨fun ρ w' hW _ => ⟨rfl, hW.toExt⟩⟩
                        · conv => whnf
                          exact ⟨fun ρ w' hW _ => ⟨rfl, hW.toExt⟩⟩
                  · rename_i hn; have := of_decide_eq_false hn; omega
                · intro w' _
                  refine Run.of_wpK (hc _ rfl) 1000 _ ?_
                  conv => whnf
                  split
                  · rename_i hn; have := of_decide_eq_true hn; omega
                  · conv => whnf
                    exact ⟨fun ρ w' hW _ => ⟨rfl, hW.toExt⟩⟩
              · conv => whnf
                exact ⟨fun ρ w' hW _ => ⟨rfl, hW.toExt⟩⟩
            · conv => whnf
              exact ⟨fun ρ w' hW _ => ⟨rfl, hW.toExt⟩⟩
          · conv => whnf
            exact ⟨fun ρ w' hW _ => ⟨rfl, hW.toExt⟩⟩
        · conv => whnf
          exact ⟨fun ρ w' hW _ => ⟨rfl, hW.toExt⟩⟩
      · conv => whnf
        exact ⟨fun ρ w' hW _ => ⟨rfl, hW.toExt⟩⟩
end Go.Proofs.Ytoipnojibkjjnaa
