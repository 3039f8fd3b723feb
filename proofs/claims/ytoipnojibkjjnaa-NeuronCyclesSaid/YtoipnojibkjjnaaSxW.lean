/-
  A small symbolic executor over the model (part W): maps whose entries are told: made, looked up, changed.
  No condition: these are definitions and laws that hold of every program.
-/
import Derived.Test.YtoipnojibkjjnaaSxV
import Derived.MapKept
namespace Go.Sx
section
variable {c : Cx} {T : List (Nat × SV)} {M : List (Nat × SObj)} {n : Nat} {D : List Deferred} {ops : Array Oper} {i : Nat} {r : List Nat} {k : List Item} {R : Ending → World → Prop} {o : Oper}

/-- 'make' of a map. -/
theorem Run.makeMap {t : TypeId} (ho : get ops.toList i = some o) (hop : o.op = .makeMap t none) (hw : wantS ops.toList (look T) o = some true) (hd : okD c.fn.ntmps o.dst = true)
    (h : ∀ b, c.w0.heap.size ≤ b → Run { c with L := (n, b) :: c.L } ⟨putS T o.dst (.v (.map (some b))), (n, .obj (.map #[] 0)) :: M, n + 1, D, .inRegion ops r :: k⟩ R) : Run c ⟨T, M, n, D, .inRegion ops (i :: r) :: k⟩ R := by
  refine ⟨fun ρ a w hi => ?_⟩
  rw [get_eq, Array.getElem?_toList] at ho
  refine TW.op ho (wantS_ok hi.tm hw) ?_
  obtain ⟨hW', hag⟩ := hi.wi.alloc (i := n) (Nat.lt_irrefl n) (o := .obj (.map #[] 0)) (x := .map #[] 0) trivial (fun ρ' w' _ hs _ hx => ⟨by simp, by rw [hs]; exact hx⟩)
  have hW2 : WI c.w0 c.L (ρ.bind n w.heap.size) (look ((n, .obj (.map #[] 0)) :: M)) (· < n + 1) (w.alloc (.map #[] 0)) := by
    rw [look_upd]; exact hW'.mono fun q hq => by have hq : q < n ∨ q = n := hq; omega
  have hinv := hi.put (ρ' := ρ.bind n w.heap.size) hd hag (Nat.le_succ n) (v := .v (.map (some w.heap.size))) trivial hW2 (.inRegion ops r :: k)
  have hwid : Widens c.w0 c.L ((n, w.heap.size) :: c.L) := ⟨fun p hp => List.mem_cons_of_mem _ hp, fun p hp => by
    rcases List.mem_cons.1 hp with rfl | hp
    · exact .inr hi.wi.size
    · exact .inl ⟨p, hp, rfl⟩⟩
  have hW3 := hinv.wi.widen hwid (fun p hp => by
    rcases List.mem_cons.1 hp with rfl | hp
    · exact ⟨Nat.lt_succ_self n, by simp [Env.bind]⟩
    · exact hinv.wi.lid p hp)
  refine Oc.value (w' := w.alloc (.map #[] 0)) (v := .map (some w.heap.size)) ?_ ?_
  · simp [execOp, hop, Instr.makeMap]
  · exact (h w.heap.size hi.wi.size).go _ _ _ ⟨hinv.sz, hinv.tm, hinv.df, hW3⟩

theorem WI.mapAt {w0 w : World} {L : List (Nat × Nat)} {ρ : Env} {M : Mem} {S : Nat → Prop} (hW : WI w0 L ρ M S w) {j b : Nat} {x : Obj} (hj : M j = some (.obj x)) (hL : (j, b) ∈ L) : w.heap[b]? = some x := by
  obtain ⟨_, _, _, h⟩ := hW.mem j _ hj
  have hs : ρ.s j = b := (hW.lid _ hL).2
  rw [← hs]
  exact h
/-- 'v, ok := m[k]'. -/
theorem Run.mapLookup {t : TypeId} {x y : Operand} {b j : Nat} {ob : Obj} {ks : SV} (ho : get ops.toList i = some o) (hop : o.op = .lookup t x y true) (hw : wantS ops.toList (look T) o = some true) (hd : okD c.fn.ntmps o.dst = true)
    (hx : ev (look T) x = some (.v (.map (some b)))) (hy : ev (look T) y = some ks) (hj : look M j = some (.obj ob)) (hL : (j, b) ∈ c.L) (v : SV) (hv : v.sc (· < n))
    (hrun : ∀ ρ w, w.heap[b]? = some ob → (Instr.lookup t (.map (some b)) (ks.conc ρ) true).run c.P w = .ok (v.conc ρ) w)
    (h : Run c ⟨putS T o.dst v, M, n, D, .inRegion ops r :: k⟩ R) : Run c ⟨T, M, n, D, .inRegion ops (i :: r) :: k⟩ R := by
  refine ⟨fun ρ a w hi => ?_⟩
  rw [get_eq, Array.getElem?_toList] at ho
  refine TW.op ho (wantS_ok hi.tm hw) ?_
  obtain ⟨h1, _⟩ := ev_ok hi.tm hx
  obtain ⟨h2, _⟩ := ev_ok hi.tm hy
  simp only [SV.conc] at h1
  refine Oc.value (w' := w) (v := v.conc ρ) ?_ ?_
  · simp [execOp, hop, h1, h2, hrun ρ w (hi.wi.mapAt hj hL)]
  · exact h.go ρ _ w (hi.put hd (Env.agree.refl _ ρ) (Nat.le_refl _) hv hi.wi _)
/-- 'm[k] = v'. -/
theorem Run.mapPut {t : TypeId} {x y z : Operand} {b j : Nat} {ob ob' : Obj} {ks vs : SV} (ho : get ops.toList i = some o) (hop : o.op = .mapUpdate t x y z ∨ o.op = .insert t x y z) (hw : wantS ops.toList (look T) o = some true) (hd : okD c.fn.ntmps o.dst = true)
    (hx : ev (look T) x = some (.v (.map (some b)))) (hy : ev (look T) y = some ks) (hz : ev (look T) z = some vs) (hj : look M j = some (.obj ob)) (hL : (j, b) ∈ c.L) (hob : ∀ c t f, ob' ≠ .cells c t f)
    (hrun : ∀ ρ w, w.heap[b]? = some ob → (Instr.mapUpdate t (.map (some b)) (ks.conc ρ) (vs.conc ρ)).run c.P w = .ok () (World.putO w b ob'))
    (h : Run c ⟨putS T o.dst (.v undef), (j, .obj ob') :: M, n, D, .inRegion ops r :: k⟩ R) : Run c ⟨T, M, n, D, .inRegion ops (i :: r) :: k⟩ R := by
  refine ⟨fun ρ a w hi => ?_⟩
  rw [get_eq, Array.getElem?_toList] at ho
  refine TW.op ho (wantS_ok hi.tm hw) ?_
  obtain ⟨h1, _⟩ := ev_ok hi.tm hx
  obtain ⟨h2, _⟩ := ev_ok hi.tm hy
  obtain ⟨h3, _⟩ := ev_ok hi.tm hz
  simp only [SV.conc] at h1
  have hr := hrun ρ w (hi.wi.mapAt hj hL)
  have hs := (hi.wi.lid _ hL).2
  simp only at hs
  have hW' := hi.wi.putO (o' := ob') hj hob
  rw [hs] at hW'
  refine Oc.skip (w' := World.putO w b ob') ?_ ?_
  · rcases hop with hop | hop <;> simp [execOp, hop, h1, h2, h3, hr]
  · exact h.go ρ _ _ (hi.put hd (Env.agree.refl _ ρ) (Nat.le_refl _) (v := .v undef) trivial (by rw [look_upd]; exact hW') _)
end
/-- Structs of integers are compared field by field. -/
theorem equalS_run {P : Program} {w : World} {ρ : Env} {t : TypeId} {ti : TI} (hti : TI.ok P t ti) {xs ys : List SV} {b : Bool} (h : eqAny ti (.agg xs) (.agg ys) = some b) : (Op.equal t (.agg (SV.concs ρ xs).toArray) (.agg (SV.concs ρ ys).toArray)).run P w = .ok b w := by
  obtain ⟨d, hd, hsh⟩ := hti.desc
  unfold eqAny at h
  split at h
  · split at h
    · rename_i h1 _; cases h1
    · cases h
  · rename_i fs hfs
    split at h
    case h_2 => cases h
    rename_i m xs' ys' hm h1 h2
    cases h1
    cases h2
    split at h
    case h_2 => cases h
    rename_i hx hy
    have hx := Nat.eq_of_beq_eq_true hx
    have hq := hti.eq
    rw [hm] at hq
    simp only [Option.all_some, eqInts, Bool.and_eq_true, Bool.not_eq_true'] at hq
    obtain ⟨⟨q1, q2⟩, q3⟩ := hq
    cases d <;> try (simp [hd] at q3; done)
    rename_i fields
    simp only [hd, Bool.and_eq_true, beq_iff_eq] at q3
    have hf : P.fieldsOf t = fields := by simp [Program.fieldsOf, hd]
    have hrun := eqFields_run P w 9998 ρ xs ys fields.toList 0 xs ys b h (by rw [hx]; exact q3.1.symm) rfl rfl q3.2
    show (Op.equalIn 10000 t (.agg (SV.concs ρ xs).toArray) (.agg (SV.concs ρ ys).toArray)).run P w = .ok b w
    rw [run_equalIn_struct w 9999 t _ _ (by rw [hf]; exact hd) q1, hf]; exact hrun
  · cases h
  · cases h
  · cases h
end Go.Sx
