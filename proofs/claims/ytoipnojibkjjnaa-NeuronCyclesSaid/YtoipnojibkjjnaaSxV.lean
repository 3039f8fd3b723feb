/-
  A small symbolic executor over the model (part V): a slice over a block of its own, told as a row.
  No condition: these are definitions and laws that hold of every program.
-/
import Derived.Test.YtoipnojibkjjnaaSxU
namespace Go.Sx

theorem Run.slcRow {c : Cx} {T T' : List (Nat × SV)} {M M' : List (Nat × SObj)} {n : Nat} {D : List Deferred} {todo : List Item} {R : Ending → World → Prop} (j : Nat) (cs : List SV) (te : TypeId)
    (hj : look M j = some (.cells cs te)) (hlen : cs.length ≤ 1000000) (hT : ∀ x ∈ T', look T x.1 = some x.2 ∨ (look T x.1 = some (.slc j 0 cs.length cs.length) ∧ x.2 = .opq n)) (hM : ∀ x ∈ M', look M x.1 = some x.2 ∧ x.1 ≠ j)
    (h : Run c ⟨T', (n, .row 1 cs.length cs te) :: M', n + 1, D, todo⟩ R) : Run c ⟨T, M, n, D, todo⟩ R := by
  refine ⟨fun ρ a w hi => ?_⟩
  obtain ⟨hSj, hscj, h0, hc⟩ := hi.wi.mem j _ hj
  have ho : w.ownsRow 0 te 1 (.slice (some ⟨ρ.s j, 0, none⟩) cs.length cs.length) cs.length (SV.concs ρ cs) :=
    ⟨by rw [concs_length, Nat.mul_one], .inr ⟨ρ.s j, cs.length, (SV.concs ρ cs).toArray, rfl, Nat.zero_le _, hc, Nat.le_refl _, by simp only [maxLen]; omega, by simp [concs_length], by
      rw [Nat.mul_one]; exact List.take_of_length_le (by simp [concs_length])⟩⟩
  have hsub : ∀ k o, look M' k = some o → look M k = some o := fun k o hk => (hM _ (look_mem hk)).1
  obtain ⟨hW', hag⟩ := hi.wi.rowTo (w' := w) (M1 := look M') hsub (i := n) (Nat.lt_irrefl n) (v := .slice (some ⟨ρ.s j, 0, none⟩) cs.length cs.length) (row := some (ρ.s j)) ⟨rfl, rfl, rfl, Nat.le_refl _, fun _ _ _ => rfl⟩ (fun b hb => by
    obtain rfl := Option.some.inj hb
    exact ⟨fun k o hk ck => hi.wi.dist k j o _ (hsub k o hk) hj (hM _ (look_mem hk)).2 ck trivial, hi.wi.new j _ hj trivial⟩)
    (fun g hg => .inl hg) ho hscj
  have hbv := conc_bindV ho ρ n
  refine h.go (ρ.bindV n (.slice (some ⟨ρ.s j, 0, none⟩) cs.length cs.length)) a w ⟨hi.sz, fun t v ht => ?_, hi.df, ?_⟩
  · rcases hT _ (look_mem ht) with h1 | ⟨h1, h2⟩
    · obtain ⟨g1, g2, g3⟩ := hi.tm t v h1
      exact ⟨g1, by rw [conc_agree hag _ g3]; exact g2, SV.sc_mono (fun q hq => by have hq : q < n := hq; show q < n + 1; omega) _ g3⟩
    · simp only at h2
      subst h2
      obtain ⟨g1, g2, g3⟩ := hi.tm t _ h1
      refine ⟨g1, ?_, Nat.lt_succ_self n⟩
      rw [hbv, g2]
      simp only [SV.conc, h0, Nat.add_zero]
  · rw [look_upd]
    exact hW'.mono fun q hq => by have hq : q < n ∨ q = n := hq; show q < n + 1; omega
end Go.Sx
