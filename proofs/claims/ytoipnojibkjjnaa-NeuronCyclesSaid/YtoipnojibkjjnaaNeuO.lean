/-
  Maps whose keys are states.
  For every neuron.
-/
import Derived.Test.YtoipnojibkjjnaaSxW
import Derived.Test.YtoipnojibkjjnaaNeuL
namespace Go.Proofs.Ytoipnojibkjjnaa
open Go.Sx
set_option maxRecDepth 100000

/-- A state as a key. -/
def kv (s : Ste) : Value := .agg #[.int .i64 s.v, .int .i64 s.rest]
theorem equal_kv (s t : Ste) (w : World) : (Op.equal 25 (kv s) (kv t)).run Try.prog w = .ok (same s t) w := by
  refine equalS_run (ρ := env0) (xs := s.cells) (ys := t.cells) (b := same s t) (Tab.ok_look tab_ok (t := 25) rfl) rfl
theorem check_kv (e : Bool) (s : Ste) (w : World) : (Instr.checkKey e 10000 25 (kv s)).run Try.prog w = .ok () w := by
  obtain ⟨a, b⟩ := s
  kernel_rfl
theorem ask_none (t : Ste) (w : World) : ∀ (l : List MapEntry) (i : Nat), (∀ e ∈ l, ∃ s, e.key = kv s ∧ same t s = false) → (Instr.findAsking 25 (kv t) l i).run Try.prog w = .ok none w
  | [], i, _ => by simp [Instr.findAsking]
  | e :: l, i, h => by
    obtain ⟨s, hk, hs⟩ := h e (by simp)
    have ih := ask_none t w l (i + 1) (fun e' he => h e' (by simp [he]))
    simp [Instr.findAsking, hk, equal_kv, hs, ih]
theorem ask_some (t : Ste) (w : World) : ∀ (l : List MapEntry) (i j : Nat) (e : MapEntry), l[j]? = some e → e.key = kv t → (∀ k e', k < j → l[k]? = some e' → ∃ s, e'.key = kv s ∧ same t s = false) → (Instr.findAsking 25 (kv t) l i).run Try.prog w = .ok (some (i + j, e.val)) w
  | [], i, j, e, h, _, _ => by simp at h
  | a :: l, i, 0, e, h, hk, _ => by
    obtain rfl := Option.some.inj h
    have : same t t = true := (same_iff _ _).2 rfl
    simp [Instr.findAsking, hk, equal_kv, this]
  | a :: l, i, j + 1, e, h, hk, hn => by
    obtain ⟨s, hk', hs⟩ := hn 0 a (by omega) rfl
    have ih := ask_some t w l (i + 1) j e h hk (fun k e' hk he => hn (k + 1) e' (by omega) he)
    simp [Instr.findAsking, hk', equal_kv, hs, ih]
    omega
theorem und82 : Try.prog.underlying 82 = some (.map 25 3) := by kernel_rfl
theorem key_run {t : Ste} {w : World} {es : List MapEntry} {r : Option (Nat × Value)} (h : (Instr.findAsking 25 (kv t) es 0).run Try.prog w = .ok r w) : (Instr.findKey 25 (kv t) es).run Try.prog w = .ok r w := by
  cases es with
  | nil =>
    have : (Instr.findAsking 25 (kv t) [] 0).run Try.prog w = .ok none w := by simp [Instr.findAsking]
    rw [this] at h
    simp only [Result.ok.injEq, and_true] at h
    subst h
    simp [Instr.findKey, run_underlying Try.underlying25, Instr.findNow]
  | cons e es =>
    simp [Instr.findKey, run_underlying Try.underlying25, Instr.findNow, Instr.sameNow, h]
theorem lookup_some {t : Ste} {w : World} {b : Nat} {es : Array MapEntry} {clock i : Nat} {v : Value} (hb : w.heap[b]? = some (.map es clock)) (h : (Instr.findAsking 25 (kv t) es.toList 0).run Try.prog w = .ok (some (i, v)) w) :
    (Instr.lookup 82 (.map (some b)) (kv t) true).run Try.prog w = .ok (.tuple #[v, .bool true]) w := by
  simp [Instr.lookup, run_underlying und82, MapKept.run_getObj_map hb, check_kv, key_run h]
theorem lookup_none {t : Ste} {w : World} {b : Nat} {es : Array MapEntry} {clock : Nat} (hb : w.heap[b]? = some (.map es clock)) (h : (Instr.findAsking 25 (kv t) es.toList 0).run Try.prog w = .ok none w) :
    (Instr.lookup 82 (.map (some b)) (kv t) true).run Try.prog w = .ok (.tuple #[.int .i64 0, .bool false]) w := by
  have hz : (zeroValue 3).run Try.prog w = .ok (.int .i64 0) w := by kernel_rfl
  simp [Instr.lookup, run_underlying und82, MapKept.run_getObj_map hb, check_kv, key_run h, hz]
theorem put_new {t : Ste} {w : World} {b : Nat} {es : Array MapEntry} {clock : Nat} {v : Value} (hb : w.heap[b]? = some (.map es clock)) (h : (Instr.findAsking 25 (kv t) es.toList 0).run Try.prog w = .ok none w) :
    (Instr.mapUpdate 82 (.map (some b)) (kv t) v).run Try.prog w = .ok () (World.putO w b (.map (es.push { key := kv t, val := v, born := clock }) (clock + 1))) := by
  simp [Instr.mapUpdate, run_underlying und82, MapKept.run_getObj_map hb, check_kv, key_run h, MapKept.run_setObj_map _ hb]
  rfl
end Go.Proofs.Ytoipnojibkjjnaa
