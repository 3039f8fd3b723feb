/-
  Arguments of the statements opened to plain values: neurons, states, slices of integers.
  No condition.
-/
import Derived.Test.YtoipnojibkjjnaaSxR
import Derived.Test.YtoipnojibkjjnaaRefB
import Derived.ProofKit
import Derived.OpenShut
import Derived.ChangeOld
import Derived.Below
import Derived.Lib.SmallJoins
namespace Go.Proofs.Ytoipnojibkjjnaa
open Go.Sx
open Go.ChangeShapes Go.WideShapes Go.ChangeAt Go.RowKit Go.Deep Go.Joins

theorem Ext.below {w w' : World} (h : Ext w w') : Below w.heap.size w w' := ⟨h.os, h.tape, h.output, h.size, h.keep⟩
theorem laidOut : laidOutB Try.prog = true := by kernel_rfl

/-- An integer of a machine word. -/
def I64 (n : Int) : Prop := -9223372036854775808 ≤ n ∧ n ≤ 9223372036854775807
def Prm.fits (p : Prm) : Prop := I64 p.lk ∧ I64 p.leak ∧ I64 p.bias ∧ I64 p.thr ∧ I64 p.rk ∧ I64 p.reset ∧ I64 p.floor ∧ I64 p.rest
def Ste.fits (s : Ste) : Prop := I64 s.v ∧ I64 s.rest

section
variable {H : Type} {enc : TypeId × Value → H} {W : World} {base b0 : Nat} {spare : Nat → Bool} {held : Bool} {r : Reach} {v : Value} {d : DataW H} {pl : List MemPlace}
theorem open_prm (hv : Value.okWide Try.prog W r b0 23 v) (h : DataW.Trod enc Try.prog W base spare held 23 v d pl) : ∃ p : Prm, v = p.sv.conc env0 ∧ p.fits := by
  obtain ⟨cs, rfl, hsz⟩ := okWide_struct Try.underlying23 hv
  obtain ⟨l⟩ := cs
  have hC : Try.prog.cellsOf 23 = 8 := by kernel_rfl
  match l, hsz.trans hC with
  | [c0, c1, c2, c3, c4, c5, c6, c7], _ =>
    obtain ⟨fuel, hf⟩ := h
    obtain ⟨xs, n, _, hx, _, hlen, hg⟩ := DataW.trod_struct Try.underlying23 hf
    have h1 : Try.prog.cellsOf 3 = 1 := by kernel_rfl
    match xs, hlen with
    | [y0, y1, y2, y3, y4, y5, y6, y7], _ =>
      have g0 : DataW.trod enc Try.prog W base spare held n 3 [c0] = some y0 := by simpa [Value.cells, h1] using hg 0 _ rfl
      have g1 : DataW.trod enc Try.prog W base spare held n 3 [c1] = some y1 := by simpa [Value.cells, h1] using hg 1 _ rfl
      have g2 : DataW.trod enc Try.prog W base spare held n 3 [c2] = some y2 := by simpa [Value.cells, h1] using hg 2 _ rfl
      have g3 : DataW.trod enc Try.prog W base spare held n 3 [c3] = some y3 := by simpa [Value.cells, h1] using hg 3 _ rfl
      have g4 : DataW.trod enc Try.prog W base spare held n 3 [c4] = some y4 := by simpa [Value.cells, h1] using hg 4 _ rfl
      have g5 : DataW.trod enc Try.prog W base spare held n 3 [c5] = some y5 := by simpa [Value.cells, h1] using hg 5 _ rfl
      have g6 : DataW.trod enc Try.prog W base spare held n 3 [c6] = some y6 := by simpa [Value.cells, h1] using hg 6 _ rfl
      have g7 : DataW.trod enc Try.prog W base spare held n 3 [c7] = some y7 := by simpa [Value.cells, h1] using hg 7 _ rfl
      obtain ⟨n0, e0, _, w0⟩ := DataW.trod_int Try.underlying3 g0
      obtain ⟨n1, e1, _, w1⟩ := DataW.trod_int Try.underlying3 g1
      obtain ⟨n2, e2, _, w2⟩ := DataW.trod_int Try.underlying3 g2
      obtain ⟨n3, e3, _, w3⟩ := DataW.trod_int Try.underlying3 g3
      obtain ⟨n4, e4, _, w4⟩ := DataW.trod_int Try.underlying3 g4
      obtain ⟨n5, e5, _, w5⟩ := DataW.trod_int Try.underlying3 g5
      obtain ⟨n6, e6, _, w6⟩ := DataW.trod_int Try.underlying3 g6
      obtain ⟨n7, e7, _, w7⟩ := DataW.trod_int Try.underlying3 g7
      simp only [List.cons.injEq, and_true] at e0 e1 e2 e3 e4 e5 e6 e7
      subst e0 e1 e2 e3 e4 e5 e6 e7
      exact ⟨⟨n0, n1, n2, n3, n4, n5, n6, n7⟩, rfl, bounds_i64 w0, bounds_i64 w1, bounds_i64 w2, bounds_i64 w3, bounds_i64 w4, bounds_i64 w5, bounds_i64 w6, bounds_i64 w7⟩
theorem open_ste (hv : Value.okWide Try.prog W r b0 25 v) (h : DataW.Trod enc Try.prog W base spare held 25 v d pl) : ∃ s : Ste, v = s.sv.conc env0 ∧ s.fits := by
  obtain ⟨cs, rfl, hsz⟩ := okWide_struct Try.underlying25 hv
  obtain ⟨l⟩ := cs
  have hC : Try.prog.cellsOf 25 = 2 := by kernel_rfl
  match l, hsz.trans hC with
  | [c0, c1], _ =>
    obtain ⟨fuel, hf⟩ := h
    obtain ⟨xs, n, _, hx, _, hlen, hg⟩ := DataW.trod_struct Try.underlying25 hf
    have h1 : Try.prog.cellsOf 3 = 1 := by kernel_rfl
    match xs, hlen with
    | [y0, y1], _ =>
      have g0 : DataW.trod enc Try.prog W base spare held n 3 [c0] = some y0 := by simpa [Value.cells, h1] using hg 0 _ rfl
      have g1 : DataW.trod enc Try.prog W base spare held n 3 [c1] = some y1 := by simpa [Value.cells, h1] using hg 1 _ rfl
      obtain ⟨n0, e0, _, w0⟩ := DataW.trod_int Try.underlying3 g0
      obtain ⟨n1, e1, _, w1⟩ := DataW.trod_int Try.underlying3 g1
      simp only [List.cons.injEq, and_true] at e0 e1
      subst e0 e1
      exact ⟨⟨n0, n1⟩, rfl, bounds_i64 w0, bounds_i64 w1⟩
/-- A slice of integers that came in: its elements, each within its kind. -/
theorem open_row {t e : TypeId} {k : IntKind} (ht : Try.prog.underlying t = some (.slice e)) (he : Try.prog.underlying e = some (.int k)) (hc : Try.prog.cellsOf e = 1) (hv : Value.okWide Try.prog W r b0 t v) (h : DataW.Trod enc Try.prog W base (fun _ => true) held t v d pl) :
    ∃ xs : List Int, RowAt W v (xs.map fun x => .int k x) ∧ (∀ n ∈ xs, (Lit.int k n).wf = true) ∧ xs.length ≤ maxLen ∧ ∃ p len cap, v = .slice p len cap ∧ len ≤ cap := by
  obtain ⟨a0, len, cap, rfl⟩ := okWide_slice ht hv
  obtain ⟨fuel, hf⟩ := h
  rcases open_ints ht he hc hf with ⟨hcs, _⟩ | ⟨x, l, c, zs, hcs, _, hl, hm, hz, _, hcell, hwz⟩
  · simp [Value.cells] at hcs
    obtain ⟨rfl, rfl, rfl⟩ := hcs
    exact ⟨[], .inl ⟨⟨_, _, rfl⟩, rfl⟩, (fun n hn => by cases hn), Nat.zero_le _, _, _, _, rfl, Nat.le_refl _⟩
  · simp [Value.cells] at hcs
    obtain ⟨rfl, rfl, rfl⟩ := hcs
    have hz : zs.length = cap := by simpa using hz
    refine ⟨zs.take len, ?_, (fun n hn => hwz n (List.mem_of_mem_take hn)), by simp; omega, _, _, _, rfl, by omega⟩
    by_cases h0 : len = 0
    · subst h0
      exact .inl ⟨⟨_, _, rfl⟩, by simp⟩
    · obtain ⟨blk, off, spot⟩ := x
      have hc0 := hcell 0 (by omega)
      have hspot : spot = none := by simpa [Addr.add] using World.cell?_spot hc0
      subst hspot
      refine .inr ⟨blk, off, cap, by simp; omega, fun j y hj => ?_⟩
      rw [List.getElem?_map] at hj
      cases hz' : (zs.take len)[j]? with
      | none => rw [hz'] at hj; cases hj
      | some x =>
        rw [hz'] at hj
        obtain rfl := Option.some.inj hj
        rw [List.getElem?_take] at hz'
        split at hz'
        · have hlt := (List.getElem?_eq_some_iff.1 hz').1
          have := hcell j hlt
          rw [addr_add] at this
          rw [this, List.getD_eq_getElem?_getD, hz']
          rfl
        · cases hz'
end
end Go.Proofs.Ytoipnojibkjjnaa
