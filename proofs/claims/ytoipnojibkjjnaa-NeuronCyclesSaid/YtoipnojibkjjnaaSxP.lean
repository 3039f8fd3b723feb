/-
  A small symbolic executor over the model (part P): the return of a function that had a range over a function; append.
  No condition: these are definitions and laws that hold of every program.
-/
import Derived.Test.YtoipnojibkjjnaaSxO
namespace Go.Sx

theorem Run.retD {c : Cx} (hc : c.ok) (hrd : c.rd = none) {T : List (Nat × SV)} {M : List (Nat × SObj)} {n : Nat} {todo : List Item} {R : Ending → World → Prop} {v : SV} (m d : Nat) (hm : (m, d) ∈ c.L) (hd : look M m = some (.obj (.deferred (some [])))) (ht : todo = [] ∨ ∃ k, todo = .code .ret :: k)
    (hv : resS c.tab (look T) (look ((m, .obj (.deferred none)) :: M)) c.fn.results.toList = some v) (h : RetOk c ((m, .obj (.deferred none)) :: M) n v R) : Run c ⟨T, M, n, [{ target := .collected d, args := #[] }], todo⟩ R := by
  refine ⟨fun ρ a w hi => ?_⟩
  have hrr : c.rr = none := by simp [Cx.rr, hrd]
  rw [hrr]
  have hs : ρ.s m = d := (hi.wi.lid (m, d) hm).2
  have hW := hi.wi.putO (o' := .deferred none) hd (fun _ _ _ => by simp)
  obtain ⟨_, _, _, h3⟩ := hi.wi.mem m _ hd
  rw [hs] at hW h3
  have hW' : WI c.w0 c.L ρ (look ((m, .obj (.deferred none)) :: M)) (· < n) (World.putO w d (.deferred none)) := by rw [look_upd]; exact hW
  obtain ⟨h1, h2⟩ := resS_ok hc.tab hi.tm hW' hv
  exact TW.retD ht hc.fn hi.df h3 h1 (h.h ρ _ hW' h2)
end Go.Sx
