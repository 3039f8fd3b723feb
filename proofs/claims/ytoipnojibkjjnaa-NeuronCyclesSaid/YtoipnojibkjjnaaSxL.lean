/-
  A small symbolic executor over the model (part L): calls by contracts; states that are told with less, or under other numbers.
  No condition: these are definitions and laws that hold of every program.
-/
import Derived.Test.YtoipnojibkjjnaaSxK
namespace Go.Sx

/-- A call by a contract of its own. -/
theorem Run.callG {c : Cx} {T : List (Nat × SV)} {M : List (Nat × SObj)} {n : Nat} {D : List Deferred} {ops : Array Oper} {i : Nat} {r : List Nat} {k : List Item} {R : Ending → World → Prop} {o : Oper} {f : Operand} {args : Array Operand} {ts : Array TypeId}
    {fv : SV} {g : FuncId} {caps vs : List SV} (ho : get ops.toList i = some o) (hop : o.op = .call { callee := .value f, args := args, argTypes := ts }) (hw : wantS ops.toList (look T) o = some true) (hd : okD c.fn.ntmps o.dst = true)
    (hf : ev (look T) f = some fv) (hfv : calleeOf fv = some (g, caps)) (hvs : evs (look T) args.toList = some vs) (hg : Enters c.P g) (Post : SV → List (Nat × SObj) → Nat → Prop)
    (hcall : ∀ ρ w, SV.scs (· < n) (vs ++ caps) → WI c.w0 c.L ρ (look M) (· < n) w → Calls c.P g (SV.concs ρ (vs ++ caps)).toArray w fun e w' =>
      ∃ ρ' v M' n', e = .returned (v.conc ρ') ∧ Env.agree (· < n) ρ ρ' ∧ n ≤ n' ∧ v.sc (· < n') ∧ WI c.w0 c.L ρ' (look M') (· < n') w' ∧ Post v M' n')
    (h : ∀ v M' n', Post v M' n' → Run c ⟨putS T o.dst v, M', n', D, .inRegion ops r :: k⟩ R) : Run c ⟨T, M, n, D, .inRegion ops (i :: r) :: k⟩ R := by
  refine ⟨fun ρ a w hi => ?_⟩
  rw [get_eq, Array.getElem?_toList] at ho
  refine TW.op ho (wantS_ok hi.tm hw) ?_
  obtain ⟨h1, h2⟩ := ev_ok hi.tm hf
  obtain ⟨h3, h4⟩ := calleeOf_ok (ρ := ρ) (S := (· < n)) hfv
  obtain ⟨h5, h6⟩ := evs_ok hi.tm hvs
  have hrun := run_callValue (P := c.P) (w := w) (o := o) hg (h1.trans h3) hop
  have hargs : args.map a.eval ++ (SV.concs ρ caps).toArray = (SV.concs ρ (vs ++ caps)).toArray := by
    rw [concs_append, ← h5]; apply Array.ext'; simp
  unfold Oc
  rw [hrun]
  simp only
  rw [hargs]
  refine (hcall ρ w (scs_append h6 (h4 h2)) hi.wi).mono fun e w' ⟨ρ', v, M', n', he, ha, hn, hv, hW, hp⟩ => ⟨v.conc ρ', he, ?_⟩
  exact (h v M' n' hp).go ρ' _ w' (hi.put hd ha hn hv hW _)

/-- A call that only makes blocks of its own, by a contract. -/
theorem Run.callE {c : Cx} {T : List (Nat × SV)} {M : List (Nat × SObj)} {n : Nat} {D : List Deferred} {ops : Array Oper} {i : Nat} {r : List Nat} {k : List Item} {R : Ending → World → Prop} {o : Oper} {f : Operand} {args : Array Operand} {ts : Array TypeId}
    {fv : SV} {g : FuncId} {caps vs : List SV} (v : SV) (hcall : ∀ ρ w, WI c.w0 c.L ρ (look M) (· < n) w → Calls c.P g (SV.concs ρ (vs ++ caps)).toArray w fun e w' => e = .returned (v.conc ρ) ∧ Ext w w') (hg : Enters c.P g)
    (ho : get ops.toList i = some o) (hop : o.op = .call { callee := .value f, args := args, argTypes := ts }) (hw : wantS ops.toList (look T) o = some true) (hd : okD c.fn.ntmps o.dst = true)
    (hf : ev (look T) f = some fv) (hfv : calleeOf fv = some (g, caps)) (hvs : evs (look T) args.toList = some vs) (hv : v.sc (· < n))
    (h : Run c ⟨putS T o.dst v, M, n, D, .inRegion ops r :: k⟩ R) : Run c ⟨T, M, n, D, .inRegion ops (i :: r) :: k⟩ R := by
  refine Run.callG ho hop hw hd hf hfv hvs hg (fun v' M' n' => v' = v ∧ M' = M ∧ n' = n) (fun ρ w _ hW => ?_) (fun v' M' n' hp => ?_)
  · exact (hcall ρ w hW).mono fun e w' ⟨he, hx⟩ => ⟨ρ, v, M, n, he, Env.agree.refl _ _, Nat.le_refl _, hv, hW.ext hx, rfl, rfl, rfl⟩
  · obtain ⟨rfl, rfl, rfl⟩ := hp; exact h

/-! ### A state told with less, under other numbers -/
mutual
def SV.ren (r : Nat → Nat) : SV → SV
  | .v x => .v x
  | .ptr i off => .ptr (r i) off
  | .slc i off len cap => .slc (r i) off len cap
  | .opq i => .opq (r i)
  | .fn f caps => .fn f (SV.rens r caps)
  | .agg cs => .agg (SV.rens r cs)
  | .tup vs => .tup (SV.rens r vs)
def SV.rens (r : Nat → Nat) : List SV → List SV
  | [] => []
  | a :: l => SV.ren r a :: SV.rens r l
end
def SObj.ren (r : Nat → Nat) : SObj → SObj
  | .cells cs t => .cells (SV.rens r cs) t
  | .row e n xs t => .row e n (SV.rens r xs) t
  | .obj o => .obj o
  | .win vs => .win vs
def Env.ren (ρ : Env) (r : Nat → Nat) : Env := ⟨fun i => ρ.s (r i), fun i => ρ.o (r i), fun i => ρ.h (r i)⟩
mutual
theorem conc_ren (ρ : Env) (r : Nat → Nat) : ∀ (a : SV), (a.ren r).conc ρ = a.conc (ρ.ren r)
  | .v _ => rfl
  | .ptr _ _ => rfl
  | .slc _ _ _ _ => rfl
  | .opq _ => rfl
  | .fn _ caps => by simp only [SV.ren, SV.conc, concs_ren ρ r caps]
  | .agg cs => by simp only [SV.ren, SV.conc, concs_ren ρ r cs]
  | .tup vs => by simp only [SV.ren, SV.conc, concs_ren ρ r vs]
theorem concs_ren (ρ : Env) (r : Nat → Nat) : ∀ (l : List SV), SV.concs ρ (SV.rens r l) = SV.concs (ρ.ren r) l
  | [] => rfl
  | a :: l => by simp only [SV.rens, SV.concs, conc_ren ρ r a, concs_ren ρ r l]
end
theorem rens_length (r : Nat → Nat) : ∀ (l : List SV), (SV.rens r l).length = l.length
  | [] => rfl
  | a :: l => by simp [SV.rens, rens_length r l]
theorem holds_ren {w0 : World} {L : List (Nat × Nat)} {ρ : Env} {r : Nat → Nat} {i : Nat} {w : World} {o : SObj} : (o.ren r).holds w0 L ρ (r i) w ↔ o.holds w0 L (ρ.ren r) i w := by
  cases o <;> simp only [SObj.ren, SObj.holds, concs_ren, rens_length, Env.ren]
theorem occ_ren {ρ : Env} {r : Nat → Nat} {i : Nat} {o : SObj} : (o.ren r).occ ρ (r i) ↔ o.occ (ρ.ren r) i := by
  cases o <;> simp [SObj.ren, SObj.occ, Env.ren]

/-- What is told in (T', M') under the renaming r stands in (T, M). -/
structure Less (r : Nat → Nat) (L : List (Nat × Nat)) (s' s : St) : Prop where
  T : ∀ x ∈ s'.T, look s.T x.1 = some (x.2.ren r) ∧ x.2.sc (· < s'.n)
  m : ∀ x ∈ s'.M, look s.M (r x.1) = some (x.2.ren r) ∧ x.1 < s'.n ∧ x.2.sc (· < s'.n)
  inj : ∀ x ∈ s'.M, ∀ y ∈ s'.M, x.1 ≠ y.1 → r x.1 ≠ r y.1
  lid : ∀ p ∈ L, r p.1 = p.1 ∧ p.1 < s'.n
  D : s'.D = s.D
  todo : s'.todo = s.todo
theorem look_mem {α : Type} : ∀ {l : List (Nat × α)} {i : Nat} {x : α}, look l i = some x → (i, x) ∈ l
  | [], i, x, h => by simp [look] at h
  | (k, y) :: l, i, x, h => by
    rw [look_cons] at h
    split at h
    · rename_i e; obtain rfl := Option.some.inj h; subst e; simp
    · exact List.mem_cons_of_mem _ (look_mem h)

theorem Run.less {c : Cx} {s s' : St} {R : Ending → World → Prop} (r : Nat → Nat) (hl : Less r c.L s' s) (h : Run c s' R) : Run c s R := by
  refine ⟨fun ρ a w hi => ?_⟩
  rw [← hl.todo]
  refine h.go (ρ.ren r) a w ⟨hi.sz, ?_, hi.df.trans hl.D.symm, ?_⟩
  · intro t v ht
    obtain ⟨h1, h2⟩ := hl.T _ (look_mem ht)
    obtain ⟨g1, g2, _⟩ := hi.tm t _ h1
    exact ⟨g1, by rw [← conc_ren]; exact g2, h2⟩
  · refine ⟨?_, ?_, ?_, ?_, hi.wi.keep, hi.wi.size, hi.wi.os, hi.wi.tape, hi.wi.output⟩
    · intro i o ho
      obtain ⟨h1, h2, h3⟩ := hl.m _ (look_mem ho)
      exact ⟨h2, h3, holds_ren.1 (hi.wi.mem _ _ h1).2.2⟩
    · intro i j o o' ho ho' hne hc hc'
      obtain ⟨h1, _, _⟩ := hl.m _ (look_mem ho)
      obtain ⟨h1', _, _⟩ := hl.m _ (look_mem ho')
      exact hi.wi.dist _ _ _ _ h1 h1' (hl.inj _ (look_mem ho) _ (look_mem ho') hne) (occ_ren.2 hc) (occ_ren.2 hc')
    · intro i o ho hc
      obtain ⟨h1, _, _⟩ := hl.m _ (look_mem ho)
      exact hi.wi.new _ _ h1 (occ_ren.2 hc)
    · intro p hp
      obtain ⟨h1, h2⟩ := hl.lid p hp
      exact ⟨h2, by show ρ.s (r p.1) = p.2; rw [h1]; exact (hi.wi.lid p hp).2⟩

/-! ### Blocks that a callee makes or writes -/
/-- 'w'' is 'w' but for block b, and for new blocks. -/
structure Mod (w : World) (b : Nat) (w' : World) : Prop where
  keep : ∀ k, k < w.heap.size → k ≠ b → w'.heap[k]? = w.heap[k]?
  size : w.heap.size ≤ w'.heap.size
  os : w'.os = w.os
  tape : w'.tape = w.tape
  output : w'.output = w.output
theorem WI.toMod {w0 w : World} {ρ : Env} {M : Mem} {S : Nat → Prop} {i b : Nat} (h : WI w0 [(i, b)] ρ M S w) : Mod w0 b w :=
  ⟨fun k hk hne => h.keep k hk (by simp; exact fun e => hne e.symm), h.size, h.os, h.tape, h.output⟩
theorem WI.startL {w : World} {i b n : Nat} {ρ : Env} {o : SObj} (hi : i < n) (hs : ρ.s i = b) (hsc : o.sc (· < n)) (ho : o.holds w [(i, b)] ρ i w) : WI w [(i, b)] ρ (look [(i, o)]) (· < n) w where
  mem j o' h := by
    rw [look_cons] at h
    split at h
    · rename_i e; obtain rfl := Option.some.inj h; subst e; exact ⟨hi, hsc, ho⟩
    · simp [look] at h
  dist j k oj ok hj hk hne _ _ := by
    rw [look_cons] at hj hk
    split at hj
    · split at hk
      · omega
      · simp [look] at hk
    · simp [look] at hj
  new j oj hj _ := by
    rw [look_cons] at hj
    split at hj
    · rename_i e; subst e; left; exact ⟨(i, b), by simp, hs.symm⟩
    · simp [look] at hj
  lid p hp := by simp at hp; subst hp; exact ⟨hi, hs⟩
  keep k _ _ := rfl
  size := Nat.le_refl _
  os := rfl
  tape := rfl
  output := rfl

section
variable {w0 w w' : World} {L : List (Nat × Nat)} {ρ : Env} {M : Mem} {S : Nat → Prop}
/-- A block that a callee has made is told from now on. -/
theorem WI.adopt (h : WI w0 L ρ M S w) (e : Ext w w') {i b : Nat} (hi : ¬ S i) (hb : w.heap.size ≤ b) {o : SObj} (ho : o.sc S)
    (hh : ∀ ρ', Env.agree S ρ ρ' → ρ'.s i = b → ρ'.o i = 0 → o.holds w0 L ρ' i w') : WI w0 L (ρ.bind i b) (upd M i o) (fun j => S j ∨ j = i) w' ∧ Env.agree S ρ (ρ.bind i b) := by
  have ha : Env.agree S ρ (ρ.bind i b) := Env.bind_agree ρ b hi
  have up : ∀ j, S j → S j ∨ j = i := fun _ => .inl
  have hs : (ρ.bind i b).s i = b := by simp [Env.bind]
  have hW := h.ext e
  have small : ∀ k ok, M k = some ok → ok.occ ρ k → ρ.s k < b := fun k ok hk ck => Nat.lt_of_lt_of_le (SObj.holds_lt (h.mem k ok hk).2.2 ck) hb
  refine ⟨⟨?_, ?_, ?_, ?_, hW.keep, hW.size, hW.os, hW.tape, hW.output⟩, ha⟩
  · intro j o' hj
    by_cases e : i = j
    · subst e
      rw [upd_same] at hj
      obtain rfl := Option.some.inj hj
      exact ⟨.inr rfl, SObj.sc_mono up ho, hh _ ha hs (by simp [Env.bind])⟩
    · rw [upd_other _ _ e] at hj
      obtain ⟨h1, h2, h3⟩ := hW.mem j o' hj
      exact ⟨.inl h1, SObj.sc_mono up h2, SObj.holds_agree ha h1 h2 (fun _ => rfl) h3⟩
  · intro j k oj ok hj hk hne cj ck
    by_cases e : i = j
    · subst e
      rw [upd_other _ _ hne] at hk
      have h1 := (h.mem k ok hk).1
      have := small k ok hk ((SObj.occ_agree ha h1).1 ck)
      rw [hs, (ha k h1).1]; omega
    · rw [upd_other _ _ e] at hj
      have h1 := (h.mem j oj hj).1
      have l1 := small j oj hj ((SObj.occ_agree ha h1).1 cj)
      by_cases e' : i = k
      · subst e'
        rw [hs, (ha j h1).1]; omega
      · rw [upd_other _ _ e'] at hk
        have g1 := (h.mem k ok hk).1
        rw [(ha j h1).1, (ha k g1).1]
        exact h.dist j k oj ok hj hk hne ((SObj.occ_agree ha h1).1 cj) ((SObj.occ_agree ha g1).1 ck)
  · intro j oj hj cj
    by_cases e : i = j
    · subst e; right; rw [hs]; have := h.size; omega
    · rw [upd_other _ _ e] at hj
      have h1 := (h.mem j oj hj).1
      rw [(ha j h1).1]
      exact h.new j oj hj ((SObj.occ_agree ha h1).1 cj)
  · intro p hp
    obtain ⟨h1, h2⟩ := h.lid p hp
    exact ⟨.inl h1, by rw [(ha p.1 h1).1, h2]⟩

/-- A told block that a callee has written. -/
theorem WI.modify (h : WI w0 L ρ M S w) {i : Nat} {o o' : SObj} (hi : M i = some o) (hocc : o.occ ρ i) (e : Mod w (ρ.s i) w') (ho : o'.sc S) (hh : o'.holds w0 L ρ i w') : WI w0 L ρ (upd M i o') S w' := by
  obtain ⟨hSi, _, ho3⟩ := h.mem i o hi
  refine ⟨?_, ?_, ?_, h.lid, ?_, Nat.le_trans h.size e.size, e.os.trans h.os, e.tape.trans h.tape, e.output.trans h.output⟩
  · intro j oj hj
    by_cases ij : i = j
    · subst ij
      rw [upd_same] at hj
      obtain rfl := Option.some.inj hj
      exact ⟨hSi, ho, hh⟩
    · rw [upd_other _ _ ij] at hj
      obtain ⟨h1, h2, h3⟩ := h.mem j oj hj
      exact ⟨h1, h2, SObj.holds_agree (Env.agree.refl S ρ) h1 h2 (fun hc => e.keep _ (SObj.holds_lt h3 hc) (fun he => h.dist i j o oj hi hj ij hocc hc he.symm)) h3⟩
  · intro j k oj ok hj hk hne cj ck
    by_cases ij : i = j
    · subst ij
      rw [upd_other _ _ hne] at hk
      exact h.dist i k o ok hi hk hne hocc ck
    · rw [upd_other _ _ ij] at hj
      by_cases ik : i = k
      · subst ik
        exact h.dist j i oj o hj hi hne cj hocc
      · rw [upd_other _ _ ik] at hk
        exact h.dist j k oj ok hj hk hne cj ck
  · intro j oj hj cj
    by_cases ij : i = j
    · subst ij; exact h.new i o hi hocc
    · rw [upd_other _ _ ij] at hj
      exact h.new j oj hj cj
  · intro k hk hL
    have hne : k ≠ ρ.s i := by
      intro ek
      rcases h.new i o hi hocc with ⟨p, hp, hpe⟩ | hle
      · exact hL p hp (hpe.trans ek.symm)
      · omega
    rw [e.keep k (by have := h.size; omega) hne, h.keep k hk hL]
end
end Go.Sx
