/-
  Laws of the small executor, and walks of the functions that the statement reaches (part 13 of several, put together out of smaller texts).
  The conditions stand with each law.
-/
import Derived.ProofKit
import Derived.OpenShut
import Derived.ChangeOld
import Derived.Below
import Derived.Lib.SmallJoins
import Derived.Test.YtnnlpdgnlccbjaaMWl
namespace Go.Proofs.Ytnnlpdgnlccbjaa
open Go.Sx
open Go.ChangeShapes Go.WideShapes Go.ChangeAt Go.RowKit Go.Deep Go.Joins
set_option maxRecDepth 100000
theorem Ext.below {w w' : World} (h : Ext w w') : Below w.heap.size w w' := ⟨h.os, h.tape, h.output, h.size, h.keep⟩
theorem laidOut : laidOutB Try.prog = true := by kernel_rfl
section
variable {H : Type} {enc : TypeId × Value → H} {W : World} {base b0 : Nat} {spare : Nat → Bool} {held : Bool} {r : Reach} {v : Value} {d : DataW H} {pl : List MemPlace}
theorem el_rul {n : Nat} {cs : List Value} {y : DataW H × List MemPlace} (h : DataW.trod enc Try.prog W base spare held n 36 cs = some y) : ∃ p : Rul, cs = p.vals := by
  obtain ⟨xs, m, _, hx, hlen, hxl, hg⟩ := DataW.trod_struct Try.underlying36 h
  have hC : Try.prog.cellsOf 36 = 10 := by kernel_rfl
  rw [hC] at hlen
  clear hx
  match cs, hlen with
  | [c0, c1, c2, c3, c4, c5, c6, c7, c8, c9], _ =>
    match xs, hxl with
    | [y0, y1, y2, y3, y4, y5, y6, y7, y8, y9], _ =>
      have h1 : Try.prog.cellsOf 3 = 1 := by kernel_rfl
      have h2 : Try.prog.cellsOf 4 = 1 := by kernel_rfl
      have g0 : DataW.trod enc Try.prog W base spare held m 3 [c0] = some y0 := by simpa [h1] using hg 0 _ rfl
      have g1 : DataW.trod enc Try.prog W base spare held m 3 [c1] = some y1 := by simpa [h1] using hg 1 _ rfl
      have g2 : DataW.trod enc Try.prog W base spare held m 3 [c2] = some y2 := by simpa [h1] using hg 2 _ rfl
      have g3 : DataW.trod enc Try.prog W base spare held m 3 [c3] = some y3 := by simpa [h1] using hg 3 _ rfl
      have g4 : DataW.trod enc Try.prog W base spare held m 3 [c4] = some y4 := by simpa [h1] using hg 4 _ rfl
      have g5 : DataW.trod enc Try.prog W base spare held m 3 [c5] = some y5 := by simpa [h1] using hg 5 _ rfl
      have g6 : DataW.trod enc Try.prog W base spare held m 3 [c6] = some y6 := by simpa [h1] using hg 6 _ rfl
      have g7 : DataW.trod enc Try.prog W base spare held m 3 [c7] = some y7 := by simpa [h1] using hg 7 _ rfl
      have g8 : DataW.trod enc Try.prog W base spare held m 3 [c8] = some y8 := by simpa [h1] using hg 8 _ rfl
      have g9 : DataW.trod enc Try.prog W base spare held m 4 [c9] = some y9 := by simpa [h2] using hg 9 _ rfl
      obtain ⟨n0, e0, _, w0⟩ := DataW.trod_int Try.underlying3 g0
      obtain ⟨n1, e1, _, w1⟩ := DataW.trod_int Try.underlying3 g1
      obtain ⟨n2, e2, _, w2⟩ := DataW.trod_int Try.underlying3 g2
      obtain ⟨n3, e3, _, w3⟩ := DataW.trod_int Try.underlying3 g3
      obtain ⟨n4, e4, _, w4⟩ := DataW.trod_int Try.underlying3 g4
      obtain ⟨n5, e5, _, w5⟩ := DataW.trod_int Try.underlying3 g5
      obtain ⟨n6, e6, _, w6⟩ := DataW.trod_int Try.underlying3 g6
      obtain ⟨n7, e7, _, w7⟩ := DataW.trod_int Try.underlying3 g7
      obtain ⟨n8, e8, _, w8⟩ := DataW.trod_int Try.underlying3 g8
      obtain ⟨n9, e9, _⟩ := DataW.trod_bool Try.underlying4 g9
      simp only [List.cons.injEq, and_true] at e0 e1 e2 e3 e4 e5 e6 e7 e8 e9
      subst e0 e1 e2 e3 e4 e5 e6 e7 e8 e9
      exact ⟨⟨n0, n1, n2, n3, n4, n5, n6, n7, n8, n9⟩, rfl⟩
theorem open_rul (hv : Value.okWide Try.prog W r b0 36 v) (h : DataW.Trod enc Try.prog W base spare held 36 v d pl) : ∃ p : Rul, v = p.sv.conc env0 := by
  obtain ⟨cs, rfl, hsz⟩ := okWide_struct Try.underlying36 hv
  obtain ⟨l⟩ := cs
  obtain ⟨fuel, hf⟩ := h
  obtain ⟨p, hp⟩ := el_rul hf
  simp [Value.cells] at hp
  subst hp
  exact ⟨p, rfl⟩
end
end Go.Proofs.Ytnnlpdgnlccbjaa
namespace Go.Proofs.Ytnnlpdgnlccbjaa
open Go.Sx
set_option maxRecDepth 100000
set_option maxHeartbeats 4000000
theorem learnWindows_walk (w : World) (r : Rul) (gap : Int) (_ : -9223372036854775808 ≤ gap ∧ gap ≤ 9223372036854775807) : Calls Try.prog 4 #[r.sv.conc env0, .int .i64 gap] w fun e w' => e = .returned (.bool true) ∧ Ext w w' := by
  have hc : ∀ L' rd, (∀ p, rd = some p → p ∈ L') → Cx.ok ⟨Try.prog, tab, [], 4, Try.f4, [], w, L', rd⟩ := fun L' rd h => ⟨tab_ok, trivial, Try.func4, mixed, h⟩
  obtain ⟨x, hx⟩ : ∃ x, rwinR r gap = x := ⟨_, rfl⟩
  refine Run.start0 (tab := tab) (pf := []) (cuts := []) mixed tab_ok trivial Try.func4 rfl [.agg (r.vals.map .v), ii gap] 100 (by simp [SV.scs, SV.sc, scs_v]) rfl ?_
  conv => whnf
  refine Run.callE (g := 18) (vs := [.agg (r.vals.map .v), ii gap]) (caps := []) (.tup [ii x.1, ii x.2]) (fun ρ w1 hW => by
    have := Window_run r gap w1
    rw [win_same, hx] at this
    exact this) (ent _ _ Try.func18 (by kernel_rfl) rfl) rfl rfl rfl rfl rfl rfl rfl ⟨trivial, trivial, trivial⟩ ?_
  refine Run.of_wpK (hc [] none (fun _ h => by cases h)) 1000 _ ?_
  conv => whnf
  refine Run.callE (g := 19) (vs := [.agg (r.vals.map .v), ii gap]) (caps := []) (.tup [ii x.1, ii x.2]) (fun ρ w1 hW => by
    have := rWindow_run r gap w1
    rw [hx] at this
    exact this) (ent _ _ Try.func19 (by kernel_rfl) rfl) rfl rfl rfl rfl rfl rfl rfl ⟨trivial, trivial, trivial⟩ ?_
  refine Run.of_wpK (hc [] none (fun _ h => by cases h)) 1000 _ ?_
  conv => whnf
  rw [show (x.1 == x.1) = true by simp]
  conv => whnf
  rw [show (x.2 == x.2) = true by simp]
  conv => whnf
  refine Run.callE (g := 14) (vs := []) (caps := []) (.v (.bool true)) (fun ρ w1 hW => works_run w1) (ent _ _ Try.func14 (by kernel_rfl) rfl) rfl rfl rfl rfl rfl rfl rfl trivial ?_
  refine Run.of_wpK (hc [] none (fun _ h => by cases h)) 1000 _ ?_
  conv => whnf
  exact ⟨fun ρ w' hW _ => ⟨rfl, hW.toExt⟩⟩
end Go.Proofs.Ytnnlpdgnlccbjaa
