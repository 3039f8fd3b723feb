/-
  A small symbolic executor over the model (part N): ranges over functions on symbolic states.
  No condition: these are definitions and laws that hold of every program.
-/
import Derived.Test.YtoipnojibkjjnaaSxM
namespace Go.Sx

section
variable {w0 w : World} {L L' : List (Nat × Nat)} {ρ : Env} {M : Mem} {S : Nat → Prop}
/-- Blocks of the call's own may be named among those that it may write. -/
structure Widens (w0 : World) (L L' : List (Nat × Nat)) : Prop where
  sub : ∀ p ∈ L, p ∈ L'
  own : ∀ p ∈ L', (∃ q ∈ L, q.2 = p.2) ∨ w0.heap.size ≤ p.2
theorem Widens.holds (h : Widens w0 L L') {i : Nat} {o : SObj} : o.holds w0 L ρ i w ↔ o.holds w0 L' ρ i w := by
  cases o with
  | win vs =>
    simp only [SObj.holds]
    refine ⟨fun ⟨h1, h2, h3⟩ => ⟨h1, fun p hp => ?_, h3⟩, fun ⟨h1, h2, h3⟩ => ⟨h1, fun p hp => h2 p (h.sub p hp), h3⟩⟩
    rcases h.own p hp with ⟨q, hq, hqe⟩ | hge
    · rw [← hqe]; exact h2 q hq
    · omega
  | _ => exact Iff.rfl
theorem WI.widen (h : WI w0 L ρ M S w) (hw : Widens w0 L L') (hl : ∀ p ∈ L', S p.1 ∧ ρ.s p.1 = p.2) : WI w0 L' ρ M S w where
  mem i o hi := ⟨(h.mem i o hi).1, (h.mem i o hi).2.1, hw.holds.1 (h.mem i o hi).2.2⟩
  dist := h.dist
  new i o hi ho := by
    rcases h.new i o hi ho with ⟨p, hp, he⟩ | hge
    · exact .inl ⟨p, hw.sub p hp, he⟩
    · exact .inr hge
  lid := hl
  keep k hk hL := h.keep k hk fun p hp => hL p (hw.sub p hp)
  size := h.size
  os := h.os
  tape := h.tape
  output := h.output
theorem WI.narrow (h : WI w0 L' ρ M S w) (hw : Widens w0 L L') : WI w0 L ρ M S w where
  mem i o hi := ⟨(h.mem i o hi).1, (h.mem i o hi).2.1, hw.holds.2 (h.mem i o hi).2.2⟩
  dist := h.dist
  new i o hi ho := by
    rcases h.new i o hi ho with ⟨p, hp, he⟩ | hge
    · rcases hw.own p hp with ⟨q, hq, hqe⟩ | hge
      · exact .inl ⟨q, hq, hqe.trans he⟩
      · exact .inr (by omega)
    · exact .inr hge
  lid p hp := h.lid p (hw.sub p hp)
  keep k hk hL := h.keep k hk fun p hp he => by
    rcases hw.own p hp with ⟨q, hq, hqe⟩ | hge
    · exact hL q hq (hqe.trans he)
    · omega
  size := h.size
  os := h.os
  tape := h.tape
  output := h.output

/-- What is told with less, under other numbers, of a world. -/
structure LessM (r : Nat → Nat) (L : List (Nat × Nat)) (M' : List (Nat × SObj)) (n' : Nat) (M : List (Nat × SObj)) : Prop where
  m : ∀ x ∈ M', look M (r x.1) = some (x.2.ren r) ∧ x.1 < n' ∧ x.2.sc (· < n')
  inj : ∀ x ∈ M', ∀ y ∈ M', x.1 ≠ y.1 → r x.1 ≠ r y.1
  lid : ∀ p ∈ L, r p.1 = p.1 ∧ p.1 < n'
theorem WI.less {r : Nat → Nat} {M' M : List (Nat × SObj)} {n' n : Nat} (hl : LessM r L M' n' M) (h : WI w0 L ρ (look M) (· < n) w) : WI w0 L (ρ.ren r) (look M') (· < n') w := by
  refine ⟨?_, ?_, ?_, ?_, h.keep, h.size, h.os, h.tape, h.output⟩
  · intro i o ho
    obtain ⟨h1, h2, h3⟩ := hl.m _ (look_mem ho)
    exact ⟨h2, h3, holds_ren.1 (h.mem _ _ h1).2.2⟩
  · intro i j o o' ho ho' hne hc hc'
    obtain ⟨h1, _, _⟩ := hl.m _ (look_mem ho)
    obtain ⟨h1', _, _⟩ := hl.m _ (look_mem ho')
    exact h.dist _ _ _ _ h1 h1' (hl.inj _ (look_mem ho) _ (look_mem ho') hne) (occ_ren.2 hc) (occ_ren.2 hc')
  · intro i o ho hc
    obtain ⟨h1, _, _⟩ := hl.m _ (look_mem ho)
    exact h.new _ _ h1 (occ_ren.2 hc)
  · intro p hp
    obtain ⟨h1, h2⟩ := hl.lid p hp
    exact ⟨h2, by show ρ.s (r p.1) = p.2; rw [h1]; exact (h.lid p hp).2⟩
end

/-- An iterator, that a range over a function calls: it calls yield with these, one after the other; it reads only the blocks B, in 'w0'. -/
def Iter (P : Program) (g : FuncId) (caps : List Value) (B : List Nat) (w0 : World) (xs : List (List Value)) : Prop :=
  ∀ (l : Nat) (J : Nat → World → Prop), (∀ i w w', J i w → Ext w w' → J i w') → (∀ i w, J i w → (∀ b ∈ B, w.heap[b]? = w0.heap[b]?)) →
    (∀ i w x, J i w → xs[i]? = some x → Yields P l x.toArray w fun b w' => b = true ∧ J (i + 1) w') →
    ∀ w, J 0 w → Calls P g (#[.func (.yield l) #[] #[]] ++ caps.toArray) w fun e w' => (∃ v, e = .returned v) ∧ J xs.length w'

/-- The call of yield in an iterator; the run goes on from the world that it leaves, told anew. -/
theorem Run.callY {c : Cx} {T : List (Nat × SV)} {M : List (Nat × SObj)} {n : Nat} {D : List Deferred} {ops : Array Oper} {i : Nat} {r : List Nat} {k : List Item} {R : Ending → World → Prop} {o : Oper} {f : Operand} {args : Array Operand} {ts : Array TypeId} {l : Nat} {vs : List SV}
    (ho : get ops.toList i = some o) (hop : o.op = .call { callee := .value f, args := args, argTypes := ts }) (hw : wantS ops.toList (look T) o = some true) (hd : okD c.fn.ntmps o.dst = true)
    (hf : ev (look T) f = some (.v (.func (.yield l) #[] #[]))) (hvs : evs (look T) args.toList = some vs)
    (hcall : ∀ ρ w, WI c.w0 c.L ρ (look M) (· < n) w → Yields c.P l (SV.concs ρ vs).toArray w fun b w' => ∃ T' ρ' M' n' L', (∀ x ∈ T', ∃ v, look T x.1 = some v ∧ v.conc ρ = x.2.conc ρ' ∧ x.2.sc (· < n')) ∧ WI w' L' ρ' (look M') (· < n') w' ∧
      Run { c with w0 := w', L := L' } ⟨putS T' o.dst (.v (.bool b)), M', n', D, .inRegion ops r :: k⟩ R) : Run c ⟨T, M, n, D, .inRegion ops (i :: r) :: k⟩ R := by
  refine ⟨fun ρ a w hi => ?_⟩
  rw [get_eq, Array.getElem?_toList] at ho
  obtain ⟨h1, _⟩ := ev_ok hi.tm hf
  obtain ⟨h5, _⟩ := evs_ok hi.tm hvs
  have hargs : args.map a.eval = (SV.concs ρ vs).toArray := by rw [← h5]; apply Array.ext'; simp
  refine TW.opY ho (wantS_ok hi.tm hw) hop h1 ?_
  rw [hargs]
  refine (hcall ρ w hi.wi).mono fun b w' ⟨T', ρ', M', n', L', hT, hW, hR⟩ => ?_
  have hi' : Inv { c with w0 := w', L := L' } ρ' ⟨T', M', n', D, .inRegion ops (i :: r) :: k⟩ a w' := by
    refine ⟨hi.sz, fun t v ht => ?_, hi.df, hW⟩
    obtain ⟨v', h1, h2, h3⟩ := hT _ (look_mem ht)
    obtain ⟨g1, g2, _⟩ := hi.tm t _ h1
    exact ⟨g1, by rw [← h2]; exact g2, h3⟩
  exact hR.go ρ' _ w' (hi'.put hd (Env.agree.refl _ _) (Nat.le_refl _) (v := .v (.bool b)) trivial hW _)
end Go.Sx
