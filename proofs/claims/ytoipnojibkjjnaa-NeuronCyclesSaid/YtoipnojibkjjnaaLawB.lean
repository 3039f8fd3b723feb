/-
  Walk of the statement 'NeuronRuns': it returns true.
  For every input; the world only gets new blocks.
-/
import Derived.Test.YtoipnojibkjjnaaLawA
import Derived.Test.YtoipnojibkjjnaaRefC
namespace Go.Proofs.Ytoipnojibkjjnaa
open Go.Sx
set_option maxRecDepth 100000

theorem runR_len (p : Prm) (s : Ste) (xs : List Int) : (runR p s xs).1.length < 4611686018427387904 := by
  unfold runR
  split
  · split
    · have := outs_length p xs s 0
      show (outs p s 0 xs).length < _
      omega
    · exact Nat.zero_lt_succ _
  · exact Nat.zero_lt_succ _

section
variable {c : Cx} {T : List (Nat × SV)} {M : List (Nat × SObj)} {n : Nat} {D : List Deferred} {ops : Array Oper} {i : Nat} {r : List Nat} {k : List Item} {R : Ending → World → Prop} {o : Oper} {f : Operand} {args : Array Operand} {ts : Array TypeId} {fv : SV}
/-- A call of 'equal' on two rows that are told. -/
theorem Run.equal {j1 j2 m1 m2 : Nat} (xs ys : List Int) (hlen : xs.length < 4611686018427387904) (hP : c.P = Try.prog) (h1 : Sx.look M j1 = some (.row 1 m1 (xs.map fun x => .v (.int .i64 x)) 3)) (h2 : Sx.look M j2 = some (.row 1 m2 (ys.map fun x => .v (.int .i64 x)) 3))
    (ho : get ops.toList i = some o) (hop : o.op = .call { callee := .value f, args := args, argTypes := ts }) (hw : wantS ops.toList (Sx.look T) o = some true) (hd : okD c.fn.ntmps o.dst = true)
    (hf : ev (Sx.look T) f = some fv) (hfv : calleeOf fv = some (20, [])) (hvs : evs (Sx.look T) args.toList = some [.opq j1, .opq j2])
    (h : Run c ⟨putS T o.dst (.v (.bool (xs == ys))), M, n, D, .inRegion ops r :: k⟩ R) : Run c ⟨T, M, n, D, .inRegion ops (i :: r) :: k⟩ R := by
  refine Run.callE (g := 20) (vs := [.opq j1, .opq j2]) (caps := []) (.v (.bool (xs == ys))) (fun ρ w1 hW => ?_) (by rw [hP]; exact ent _ _ Try.func20 (by kernel_rfl) rfl) ho hop hw hd hf hfv hvs trivial h
  have q1 := hW.rowAt h1
  have q2 := hW.rowAt h2
  rw [concs_i] at q1 q2
  rw [hP]
  exact equal_run _ _ xs ys w1 q1 q2 hlen
end

theorem neuronRuns_walk (w : World) (p : Prm) (_ : p.fits) (s : Ste) (_ : s.fits) (v : Value) (xs : List Int) (hr : RowAt w v (ints xs)) (_ : ∀ n ∈ xs, (Lit.int .i64 n).wf = true) (_ : xs.length ≤ maxLen) :
    Calls Try.prog 4 #[p.sv.conc env0, s.sv.conc env0, v] w fun e w' => e = .returned (.bool true) ∧ Ext w w' := by
  have hc : ∀ (q : Cx), q = ⟨Try.prog, tab, pfW, 4, Try.f4, [], w, [], none⟩ → q.ok := by
    rintro _ rfl
    exact ⟨tab_ok, pfW_ok, Try.func4, mixed, fun _ h => by cases h⟩
  obtain ⟨pp, cap, rfl⟩ := hr.len
  rw [ints_length] at hr ⊢
  have hR := fun w1 hx => Run_run p s (.slice pp xs.length cap) xs w1 (hr.ext (w' := w1) hx)
  have hR2 := fun w1 hx => rRun_run p s (.slice pp xs.length cap) xs w1 (hr.ext (w' := w1) hx)
  rw [← run_same] at hR2
  have hl := runR_len p s xs
  generalize runR p s xs = res at hR hR2 hl
  obtain ⟨l, ⟨v1, v2⟩, e⟩ := res
  refine Run.start0 (tab := tab) (pf := pfW) (cuts := []) mixed tab_ok pfW_ok Try.func4 rfl [p.sv, s.sv, .v (.slice pp xs.length cap)] 1000 (by simp [SV.scs, SV.sc, Prm.sv, Prm.cells, Ste.sv, Ste.cells]) rfl ?_
  conv => whnf
  cases h1 : decide ((2000 : Int) < (xs.length : Int))
  · conv => whnf
    refine Run.trim (T' := [(3, .ptr 0 0), (4, .ptr 1 0), (2, .v (.slice pp xs.length cap)), (28, p.sv), (29, s.sv), (30, .v (.slice pp xs.length cap))]) (M' := [(0, .cells p.cells 23), (1, .cells s.cells 25)]) 2
      ⟨⟨rfl, by simp [SV.sc]⟩, ⟨rfl, by simp [SV.sc]⟩, ⟨rfl, trivial⟩, ⟨rfl, by simp [SV.sc, SV.scs, Prm.sv, Prm.cells]⟩, ⟨rfl, by simp [SV.sc, SV.scs, Ste.sv, Ste.cells]⟩, ⟨rfl, trivial⟩, trivial⟩ ⟨⟨rfl, by omega, by simp [SObj.sc, Prm.cells, SV.scs, SV.sc]⟩, ⟨rfl, by omega, by simp [SObj.sc, Ste.cells, SV.scs, SV.sc]⟩, trivial⟩ (fun p hp => by cases hp) ?_
    refine Run.post (vs := [p.sv, s.sv, .v (.slice pp xs.length cap)]) (caps := []) (l, ⟨v1, v2⟩, e) rfl (fun ρ w1 hW => hR w1 hW.toExt) (ent _ _ Try.func18 (by kernel_rfl) rfl) rfl rfl rfl rfl rfl rfl rfl ?_
    refine Run.of_wpK (hc _ rfl) 1000 _ ?_
    conv => whnf
    refine Run.post (vs := [p.sv, s.sv, .v (.slice pp xs.length cap)]) (caps := []) (l, ⟨v1, v2⟩, e) rfl (fun ρ w1 hW => hR2 w1 hW.toExt) (ent _ _ Try.func19 (by kernel_rfl) rfl) rfl rfl rfl rfl rfl rfl rfl ?_
    refine Run.of_wpK (hc _ rfl) 1000 _ ?_
    conv => whnf
    refine Run.equal l l hl rfl rfl rfl rfl rfl rfl rfl rfl rfl rfl ?_
    rw [show (l == l) = true by simp]
    refine Run.of_wpK (hc _ rfl) 1000 _ ?_
    conv => whnf
    rw [show (v1 == v1 && (v2 == v2 && true)) = true by simp]
    conv => whnf
    rw [show (e == e) = true by simp]
    conv => whnf
    exact ⟨fun ρ w' hW _ => ⟨rfl, hW.toExt⟩⟩
  · conv => whnf
    cases h2 : decide ((xs.length : Int) ≤ 10000)
    · conv => whnf
      cases h3 : decide ((10010 : Int) < (xs.length : Int))
      · conv => whnf
        refine Run.trim (T' := [(3, .ptr 0 0), (4, .ptr 1 0), (2, .v (.slice pp xs.length cap)), (28, p.sv), (29, s.sv), (30, .v (.slice pp xs.length cap))]) (M' := [(0, .cells p.cells 23), (1, .cells s.cells 25)]) 2
          ⟨⟨rfl, by simp [SV.sc]⟩, ⟨rfl, by simp [SV.sc]⟩, ⟨rfl, trivial⟩, ⟨rfl, by simp [SV.sc, SV.scs, Prm.sv, Prm.cells]⟩, ⟨rfl, by simp [SV.sc, SV.scs, Ste.sv, Ste.cells]⟩, ⟨rfl, trivial⟩, trivial⟩ ⟨⟨rfl, by omega, by simp [SObj.sc, Prm.cells, SV.scs, SV.sc]⟩, ⟨rfl, by omega, by simp [SObj.sc, Ste.cells, SV.scs, SV.sc]⟩, trivial⟩ (fun p hp => by cases hp) ?_
        refine Run.post (vs := [p.sv, s.sv, .v (.slice pp xs.length cap)]) (caps := []) (l, ⟨v1, v2⟩, e) rfl (fun ρ w1 hW => hR w1 hW.toExt) (ent _ _ Try.func18 (by kernel_rfl) rfl) rfl rfl rfl rfl rfl rfl rfl ?_
        refine Run.of_wpK (hc _ rfl) 1000 _ ?_
        conv => whnf
        refine Run.post (vs := [p.sv, s.sv, .v (.slice pp xs.length cap)]) (caps := []) (l, ⟨v1, v2⟩, e) rfl (fun ρ w1 hW => hR2 w1 hW.toExt) (ent _ _ Try.func19 (by kernel_rfl) rfl) rfl rfl rfl rfl rfl rfl rfl ?_
        refine Run.of_wpK (hc _ rfl) 1000 _ ?_
        conv => whnf
        refine Run.equal l l hl rfl rfl rfl rfl rfl rfl rfl rfl rfl rfl ?_
        rw [show (l == l) = true by simp]
        refine Run.of_wpK (hc _ rfl) 1000 _ ?_
        conv => whnf
        rw [show (v1 == v1 && (v2 == v2 && true)) = true by simp]
        conv => whnf
        rw [show (e == e) = true by simp]
        conv => whnf
        exact ⟨fun ρ w' hW _ => ⟨rfl, hW.toExt⟩⟩
      · conv => whnf
        exact ⟨fun ρ w' hW _ => ⟨rfl, hW.toExt⟩⟩
    · conv => whnf
      exact ⟨fun ρ w' hW _ => ⟨rfl, hW.toExt⟩⟩
end Go.Proofs.Ytoipnojibkjjnaa
