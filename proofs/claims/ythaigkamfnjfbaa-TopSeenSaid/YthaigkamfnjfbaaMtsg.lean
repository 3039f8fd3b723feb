/-
  Laws of the executor, and walks of functions (part 7). The conditions stand with each law.
-/
import Derived.Laws.BytesString
import Derived.Laws.IdiomStrings
import Derived.Test.YthaigkamfnjfbaaMtsf
namespace Go.Sx
theorem Run.callsAt {c : Cx} {cd : Code} {w : World} {R : Ending → World → Prop} (hrd : c.rd = none) (hf : c.P.funcs[c.f]? = some c.fn) (hb : c.fn.body = some cd) (ρ : Env) (args : List SV) (M : List (Nat × SObj)) (n : Nat)
    (hs : SV.scs (· < n) args) (hN : Nat.ble (lenL args) c.fn.ntmps = true) (hW : WI c.w0 c.L ρ (look M) (· < n) w) (h : Run c ⟨numb 0 args, M, n, [], [.code cd]⟩ R) : Calls c.P c.f (SV.concs ρ args).toArray w R := by
  have hN : args.length ≤ c.fn.ntmps := by rw [← lenL_eq]; exact Nat.le_of_ble_eq_true hN
  have hrr : c.rr = none := by simp [Cx.rr, hrd]
  have hgo := h.go ρ { tmps := (SV.concs ρ args).toArray ++ Array.replicate (c.fn.ntmps - (SV.concs ρ args).toArray.size) undef, defers := [] } w ⟨?_, ?_, rfl, hW⟩
  · rw [hrr] at hgo
    exact TW.calls hf hb hgo
  · simp [concs_length]; omega
  · intro t v ht
    obtain ⟨_, h2⟩ := numb_look args 0 t v ht
    simp only [Nat.sub_zero] at h2
    have hlt : t < args.length := by
      rcases Nat.lt_or_ge t args.length with h | h
      · exact h
      · rw [List.getElem?_eq_none h] at h2; cases h2
    refine ⟨by simp [concs_length]; omega, ?_, (scs_iff _ _).1 hs v (List.mem_of_getElem? h2)⟩
    have : ((SV.concs ρ args).toArray ++ Array.replicate (c.fn.ntmps - (SV.concs ρ args).toArray.size) undef)[t]? = some (v.conc ρ) := by
      rw [Array.getElem?_append_left (by simp [concs_length]; exact hlt)]
      simp [concs_map, h2]
    rw [Array.getD_eq_getD_getElem?, this]; rfl
section
variable {c : Cx} {T : List (Nat × SV)} {M : List (Nat × SObj)} {n : Nat} {D : List Deferred} {ops : Array Oper} {i : Nat} {r : List Nat} {k : List Item} {R : Ending → World → Prop} {o : Oper}
end
end Go.Sx
namespace Go.Sx
section
variable {P : Program} {w : World} {t kt e : TypeId} {b : Nat} {l : List (Int × Value)}
end
end Go.Sx
