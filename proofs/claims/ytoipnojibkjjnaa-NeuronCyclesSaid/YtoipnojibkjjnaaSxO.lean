/-
  A small symbolic executor over the model (part O): a whole range over a function on symbolic states.
  No condition: these are definitions and laws that hold of every program.
-/
import Derived.Test.YtoipnojibkjjnaaSxN
namespace Go.Sx

def SV.pinned (is : List Nat) : SV → Prop
  | .v _ => True
  | .ptr i _ => i ∈ is
  | _ => False
/-- The blocks told in a loop's rounds: the loop's own, the deferred calls', and these. -/
def inLoop (n : Nat) (a : Act) (f : FuncId) (params : Array Tmp) (assign body : Code) (d : Nat) (M : List (Nat × SObj)) : List (Nat × SObj) :=
  (n + 1, .obj (.loop (loopOf a f params assign body d))) :: (n, .obj (.deferred (some []))) :: M

theorem foldl_size (l : List (Nat × Value)) : ∀ (t : Array Value), (l.foldl (fun tmps (p : Nat × Value) => tmps.setIfInBounds p.1 p.2) t).size = t.size := by
  induction l with
  | nil => intro t; rfl
  | cons p l ih => intro t; rw [List.foldl_cons, ih]; simp
theorem foldl_get (l : List (Nat × Value)) : ∀ (t : Array Value) (j : Nat), (l.map (·.1)).Nodup → (∀ p ∈ l, p.1 < t.size) →
    (l.foldl (fun tmps (p : Nat × Value) => tmps.setIfInBounds p.1 p.2) t).getD j undef = (look l j).getD (t.getD j undef) := by
  induction l with
  | nil => intro t j _ _; rfl
  | cons p l ih =>
    intro t j hnd hlt
    simp only [List.map_cons, List.nodup_cons] at hnd
    rw [List.foldl_cons, ih _ _ hnd.2 (fun q hq => by simpa using hlt q (List.mem_cons_of_mem _ hq)), look_cons (k := p.1) (a := p.2)]
    have hp := hlt p (List.mem_cons_self ..)
    by_cases e : p.1 = j
    · rw [if_pos e]
      have hno : look l j = none := by
        cases h : look l j with
        | none => rfl
        | some v => exact absurd (List.mem_map.2 ⟨_, look_mem h, e.symm⟩) hnd.1
      rw [hno]
      subst e
      simp [hp]
    · rw [if_neg e]
      congr 1
      simp [Array.getD_eq_getD_getElem?, e]
theorem look_append {α : Type} (l l' : List (Nat × α)) (i : Nat) : look (l ++ l') i = (look l i).or (look l' i) := by
  induction l with
  | nil => simp [look]
  | cons p l ih =>
    rw [List.cons_append, look_cons (k := p.1) (a := p.2), look_cons (k := p.1) (a := p.2), ih]
    split <;> rfl
theorem look_map {α β : Type} (f : α → β) (l : List (Nat × α)) (i : Nat) : look (l.map fun p => (p.1, f p.2)) i = (look l i).map f := by
  induction l with
  | nil => rfl
  | cons p l ih =>
    rw [List.map_cons, look_cons, look_cons (k := p.1) (a := p.2), ih]
    split <;> rfl

theorem ptr_fix {w0 w : World} {L : List (Nat × Nat)} {ρ : Env} {M : Mem} {S : Nat → Prop} (h : WI w0 L ρ M S w) {j : Nat} (hj : ∃ cs t, M j = some (.cells cs t)) : ρ.o j = 0 := by
  obtain ⟨cs, t, hj⟩ := hj
  exact (h.mem j _ hj).2.2.1

/-- A range over a function whose iterator calls its rounds with 'xs', one after the other, and every round of which comes to its end. 'is': numbers of blocks that stand through the loop; 'T0': the temporaries that are still told; 'Mi i': what is told after i rounds. -/
theorem Run.rangeFunc {c : Cx} (hrd : c.rd = none) {T T0 : List (Nat × SV)} {M : List (Nat × SObj)} {n : Nat} {k : List Item} {R : Ending → World → Prop} {x : Operand} {params : Array Tmp} {assign body : Code} {g : FuncId} {caps : List SV} {fv : SV}
    (hx : ev (look T) x = some fv) (hfv : calleeOf fv = some (g, caps)) (hg : Enters c.P g) (is : List Nat) (Mi : Nat → List (Nat × SObj)) (N : Nat) (xs : List (List Value))
    (hp : params.toList.Nodup) (hp2 : ∀ t ∈ params.toList, t < c.fn.ntmps) (hxs : ∀ v ∈ xs, v.length = params.size)
    (hN : n + 2 ≤ N) (his : ∀ j ∈ is, j < n ∧ ∃ cs t, look M j = some (.cells cs t)) (hMi : ∀ i, ∀ j ∈ is, ∃ cs t, look (Mi i) j = some (.cells cs t)) (hcL : ∀ p ∈ c.L, p.1 ∈ is) (hT0 : ∀ y ∈ T0, look T y.1 = some y.2 ∧ y.2.pinned is)
    (r0 : Nat → Nat) (hr0 : ∀ a d L', (∀ p ∈ L', p.1 ∈ (n + 1) :: n :: is) → LessM r0 L' (inLoop n a c.f params assign body d (Mi 0)) N (inLoop n a c.f params assign body d M))
    (hit : ∀ ρ w, WI c.w0 c.L ρ (look M) (· < n) w → ∃ B, Iter c.P g (SV.concs ρ caps) B w xs ∧ ∀ L', (∀ j ∈ is, (j, ρ.s j) ∈ L') → Widens c.w0 c.L L' → ∀ ρ' i a d w', WI c.w0 L' ρ' (look (inLoop n a c.f params assign body d (Mi i))) (· < N) w' → ∀ b ∈ B, w'.heap[b]? = w.heap[b]?)
    (hround : ∀ i v, xs[i]? = some v → ∀ L' l a d, (n + 1, l) ∈ L' → (∀ p ∈ L', p.1 ∈ (n + 1) :: n :: is) → Run { c with L := L', rd := some (n + 1, l) } ⟨params.toList.zip (v.map .v) ++ T0, inLoop n a c.f params assign body d (Mi i), N, [], [.code assign, .beginRound, .code body]⟩
      (fun e w' => e = .returned (.bool true) ∧ ∃ ρ, WI c.w0 L' ρ (look (inLoop n a c.f params assign body d (Mi (i + 1)))) (· < N) w'))
    (hafter : ∀ L' a d, Widens c.w0 c.L L' → (n, d) ∈ L' → Run { c with L := L' } ⟨T0, (n + 1, .obj (.loop { loopOf a c.f params assign body d with state := .exhausted })) :: inLoop n a c.f params assign body d (Mi xs.length), N, [{ target := .collected d, args := #[] }], k⟩ R) :
    Run c ⟨T, M, n, [], .code (.rangeFunc x params assign body) :: k⟩ R := by
  refine ⟨fun ρ a w hi => ?_⟩
  have hrr : c.rr = none := by simp [Cx.rr, hrd]
  rw [hrr]
  obtain ⟨h1, h2⟩ := ev_ok hi.tm hx
  obtain ⟨h3, h4⟩ := calleeOf_ok (ρ := ρ) (S := (· < n)) hfv
  refine TW.rangeFunc hg (h1.trans h3) ?_
  -- the two new blocks
  obtain ⟨hW1, ha1⟩ := hi.wi.alloc (i := n) (Nat.lt_irrefl n) (o := .obj (.deferred (some []))) (x := .deferred (some [])) trivial (fun ρ' w' _ hs _ hh => ⟨fun _ _ _ => by simp, by rw [hs]; exact hh⟩)
  obtain ⟨hW2, ha2⟩ := hW1.alloc (i := n + 1) (by simp) (o := .obj (.loop (loopOf a c.f params assign body w.heap.size))) (x := .loop (loopOf a c.f params assign body w.heap.size)) trivial (fun ρ' w' _ hs _ hh => ⟨fun _ _ _ => by simp, by rw [hs]; exact hh⟩)
  generalize hρ : ((ρ.bind n w.heap.size).bind (n + 1) (w.alloc (.deferred (some []))).heap.size) = ρ2 at hW2 ha2
  have hl : ρ2.s (n + 1) = w.heap.size + 1 := by subst hρ; simp [Env.bind]
  have hd : ρ2.s n = w.heap.size := by subst hρ; simp [Env.bind]
  have hold : ∀ j, j < n → ρ2.s j = ρ.s j ∧ ρ2.o j = ρ.o j ∧ ρ2.h j = ρ.h j := fun j hj => (ha1.trans ha2 (fun _ h => .inl h)) j hj
  have hW : WI c.w0 c.L ρ2 (look (inLoop n a c.f params assign body w.heap.size M)) (· < n + 2) (World.loop w a c.f params assign body) := by
    simp only [inLoop, look_upd]
    exact hW2.mono fun j hj => by have hj : (j < n ∨ j = n) ∨ j = n + 1 := hj; omega
  -- what is pinned
  let L' : List (Nat × Nat) := ((n + 1) :: n :: is).map fun i => (i, ρ2.s i)
  have hL'1 : ∀ p ∈ L', p.1 ∈ (n + 1) :: n :: is := by
    intro p hp
    obtain ⟨j, hj, rfl⟩ := List.mem_map.1 hp
    exact hj
  have hL'2 : ∀ j ∈ (n + 1) :: n :: is, (j, ρ2.s j) ∈ L' := fun j hj => List.mem_map.2 ⟨j, hj, rfl⟩
  have hL'3 : ∀ p ∈ L', p.1 < n + 2 ∧ ρ2.s p.1 = p.2 := by
    intro p hp
    obtain ⟨j, hj, rfl⟩ := List.mem_map.1 hp
    refine ⟨?_, rfl⟩
    simp only [List.mem_cons] at hj
    rcases hj with rfl | rfl | hj
    · omega
    · omega
    · have := (his j hj).1; show j < n + 2; omega
  have hwid : Widens c.w0 c.L L' := by
    refine ⟨fun p hp => ?_, fun p hp => ?_⟩
    · have h5 := hW.lid p hp
      have := hL'2 p.1 (by simp [hcL p hp])
      rw [h5.2] at this
      exact this
    · obtain ⟨j, hj, rfl⟩ := List.mem_map.1 hp
      simp only [List.mem_cons] at hj
      rcases hj with hj | hj | hj
      · right; show c.w0.heap.size ≤ ρ2.s j; rw [hj, hl]; have := hi.wi.size; omega
      · right; show c.w0.heap.size ≤ ρ2.s j; rw [hj, hd]; exact hi.wi.size
      · obtain ⟨hjn, cs, t, hj⟩ := his j hj
        have := hi.wi.new j _ hj trivial
        show (∃ q ∈ c.L, q.2 = ρ2.s j) ∨ c.w0.heap.size ≤ ρ2.s j
        rw [(hold j hjn).1]; exact this
  have hWL := hW.widen hwid (fun p hp => hL'3 p hp)
  have hW0 := WI.less (hr0 a w.heap.size L' hL'1) hWL
  obtain ⟨B, hIt, hB⟩ := hit ρ w hi.wi
  have hBB := hB L' (fun j hj => by rw [← (hold j (his j hj).1).1]; exact hL'2 j (by simp [hj])) hwid
  -- the temporaries of before, in every later environment
  have hTm : ∀ (ρ' : Env) (i : Nat) (w' : World), WI c.w0 L' ρ' (look (inLoop n a c.f params assign body w.heap.size (Mi i))) (· < N) w' → ∀ t v, look T0 t = some v → t < a.tmps.size ∧ a.tmps.getD t undef = v.conc ρ' ∧ v.sc (· < N) := by
    intro ρ' i w' hW' t v ht
    obtain ⟨hT, hpin⟩ := hT0 _ (look_mem ht)
    obtain ⟨g1, g2, g3⟩ := hi.tm t v hT
    refine ⟨g1, ?_, ?_⟩
    · rw [g2]
      cases v with
      | v x => rfl
      | ptr j off =>
        have hpin : j ∈ is := hpin
        obtain ⟨hjn, hjc⟩ := his j hpin
        have e1 : ρ'.s j = ρ2.s j := (hW'.lid (j, ρ2.s j) (hL'2 j (by simp [hpin]))).2
        have e2 : ρ'.o j = 0 := by
          obtain ⟨cs, t, hm⟩ := hMi i j hpin
          refine ptr_fix hW' ⟨cs, t, ?_⟩
          rw [inLoop, look_cons, if_neg (by omega), look_cons, if_neg (by omega)]
          exact hm
        have e3 : ρ.o j = 0 := ptr_fix hi.wi hjc
        simp only [SV.conc, e1, e2, e3, (hold j hjn).1]
      | _ => exact hpin.elim
    · cases v with
      | v x => trivial
      | ptr j off =>
        have hpin : j ∈ is := hpin
        have := (his j hpin).1
        show j < N
        omega
      | _ => exact hpin.elim
  -- the iterator's call
  have hcalls := hIt (w.heap.size + 1) (fun i w' => ∃ ρ', WI c.w0 L' ρ' (look (inLoop n a c.f params assign body w.heap.size (Mi i))) (· < N) w')
    (fun i w1 w2 ⟨ρ', h⟩ he => ⟨ρ', h.ext he⟩) (fun i w1 ⟨ρ', h⟩ b hb => hBB ρ' i a w.heap.size w1 h b hb) ?_ _ ⟨_, hW0⟩
  · refine hcalls.mono fun e w' ⟨⟨v, he⟩, ρ', hW'⟩ => ⟨v, he, ?_⟩
    have e1 : ρ'.s (n + 1) = w.heap.size + 1 := by rw [(hW'.lid _ (hL'2 (n + 1) (by simp))).2, hl]
    have hm : (look (inLoop n a c.f params assign body w.heap.size (Mi xs.length))) (n + 1) = some (.obj (.loop (loopOf a c.f params assign body w.heap.size))) := by
      rw [inLoop, look_cons, if_pos rfl]
    obtain ⟨_, _, _, hh⟩ := hW'.mem _ _ hm
    rw [e1] at hh
    refine TW.endLoop hh (by simp [loopOf]) rfl ?_
    have hW3 := hW'.putO (o' := .loop { loopOf a c.f params assign body w.heap.size with state := .exhausted }) hm (fun _ _ _ => by simp)
    rw [e1] at hW3
    have hrun := (hafter L' a w.heap.size hwid (by have := hL'2 n (by simp); rw [hd] at this; exact this)).go ρ' (marked w a) _ ⟨hi.sz, hTm ρ' _ w' hW', ?_, by rw [look_upd]; exact hW3⟩
    · have hrr' : ({ c with L := L' } : Cx).rr = none := hrr
      rw [hrr'] at hrun
      exact hrun
    · simp only [marked, hi.df]
  · intro i w' v ⟨ρ', hW'⟩ hv
    have e1 : ρ'.s (n + 1) = w.heap.size + 1 := by rw [(hW'.lid _ (hL'2 (n + 1) (by simp))).2, hl]
    have hm : (look (inLoop n a c.f params assign body w.heap.size (Mi i))) (n + 1) = some (.obj (.loop (loopOf a c.f params assign body w.heap.size))) := by
      rw [inLoop, look_cons, if_pos rfl]
    obtain ⟨_, _, _, hh⟩ := hW'.mem _ _ hm
    rw [e1] at hh
    have hlen : v.length = params.size := hxs v (List.mem_of_getElem? hv)
    refine ⟨_, hh, by simpa [loopOf] using hlen, ?_⟩
    have hfold : roundTmps (loopOf a c.f params assign body w.heap.size) v.toArray = (params.toList.zip v).foldl (fun tmps (p : Nat × Value) => tmps.setIfInBounds p.1 p.2) a.tmps := by
      simp only [roundTmps, loopOf]
      rw [← Array.foldl_toList]
      simp
    have hrun := (hround i v hv L' (w.heap.size + 1) a w.heap.size (by have := hL'2 (n + 1) (by simp); rw [hl] at this; exact this) hL'1).go ρ' { tmps := roundTmps (loopOf a c.f params assign body w.heap.size) v.toArray, defers := [] } w' ⟨?_, ?_, rfl, hW'⟩
    · exact hrun.mono fun e w2 ⟨he, ρ2, h⟩ => ⟨true, he, rfl, ρ2, h⟩
    · rw [hfold, foldl_size]; exact hi.sz
    · have hsz : a.tmps.size = c.fn.ntmps := hi.sz
      have hzip : ∀ p ∈ params.toList.zip v, p.1 < a.tmps.size := fun p hpp => by rw [hsz]; exact hp2 _ (List.of_mem_zip hpp).1
      have hnd : ((params.toList.zip v).map (·.1)).Nodup := by
        rw [List.map_fst_zip (by simp [hlen])]
        exact hp
      intro t x ht
      rw [hfold, foldl_size, foldl_get _ _ _ hnd hzip]
      have hz : params.toList.zip (v.map SV.v) = (params.toList.zip v).map fun p => (p.1, SV.v p.2) := by
        rw [List.zip_map_right]; rfl
      rw [look_append, hz, look_map] at ht
      cases hq : look (params.toList.zip v) t with
      | some y =>
        rw [hq] at ht
        obtain rfl : SV.v y = x := by simpa using ht
        exact ⟨hzip _ (look_mem hq), rfl, trivial⟩
      | none =>
        rw [hq] at ht
        exact hTm ρ' i w' hW' t x (by simpa using ht)
end Go.Sx
