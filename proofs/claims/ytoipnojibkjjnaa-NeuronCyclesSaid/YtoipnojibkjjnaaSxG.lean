/-
  A small symbolic executor over the model (part G): the runs of a function's body on symbolic states.
  No condition: these are definitions and laws that hold of every program.
-/
import Derived.Test.YtoipnojibkjjnaaSxF
namespace Go.Sx

structure St where
  T : List (Nat × SV)
  M : List (Nat × SObj)
  n : Nat
  D : List Deferred
  todo : List Item

/-- What does not turn in a call: the program, its tables, the function, where its regions whose order is open are cut, the world and the blocks of before that it may write to; the loop (number, real block) where the run is one of a loop's rounds. -/
structure Cx where
  P : Program
  tab : Tab
  pf : PF
  f : FuncId
  fn : Func
  cuts : List (Nat × Nat)
  w0 : World
  L : List (Nat × Nat)
  rd : Option (Nat × Nat) := none

structure Cx.ok (c : Cx) : Prop where
  tab : Tab.oks c.P c.tab
  pf : PF.oks c.P c.pf
  fn : c.P.funcs[c.f]? = some c.fn
  mixed : c.P.follows .mixedOrders = true
  rdL : ∀ p, c.rd = some p → p ∈ c.L
/-- The real number of the block of the loop whose round it is. -/
abbrev Cx.rr (c : Cx) : Option Nat := c.rd.map (·.2)

structure Inv (c : Cx) (ρ : Env) (s : St) (a : Act) (w : World) : Prop where
  sz : a.tmps.size = c.fn.ntmps
  tm : TmOk ρ (look s.T) (· < s.n) a
  df : a.defers = s.D
  wi : WI c.w0 c.L ρ (look s.M) (· < s.n) w

/-- From every real state that the symbolic one speaks of, the function comes to an ending of which R holds. -/
structure Run (c : Cx) (s : St) (R : Ending → World → Prop) : Prop where
  go : ∀ ρ a w, Inv c ρ s a w → TW c.P c.f c.rr a s.todo w R

theorem TmOk.put {ρ ρ' : Env} {T : List (Nat × SV)} {S S' : Nat → Prop} {a : Act} (h : TmOk ρ (look T) S a) (hag : Env.agree S ρ ρ') (hS : ∀ i, S i → S' i) {t : Nat} {v : SV} (ht : t < a.tmps.size) (hv : v.sc S') :
    TmOk ρ' (look ((t, v) :: T)) S' (a.put (some t) (v.conc ρ')) := by
  intro u x hx
  rw [look_cons] at hx
  simp only [Act.put, Array.size_setIfInBounds]
  by_cases e : t = u
  · subst e
    rw [if_pos rfl] at hx
    obtain rfl := Option.some.inj hx
    exact ⟨ht, by simp [ht], hv⟩
  · rw [if_neg e] at hx
    obtain ⟨h1, h2, h3⟩ := h u x hx
    refine ⟨h1, ?_, SV.sc_mono hS x h3⟩
    rw [conc_agree hag x h3, ← h2]
    simp [e]
theorem TmOk.keep {ρ ρ' : Env} {T : List (Nat × SV)} {S S' : Nat → Prop} {a : Act} (h : TmOk ρ (look T) S a) (hag : Env.agree S ρ ρ') (hS : ∀ i, S i → S' i) (v : Value) : TmOk ρ' (look T) S' (a.put none v) := by
  intro u x hx
  obtain ⟨h1, h2, h3⟩ := h u x hx
  exact ⟨h1, by rw [conc_agree hag x h3]; exact h2, SV.sc_mono hS x h3⟩

def putS (T : List (Nat × SV)) (d : Option Tmp) (v : SV) : List (Nat × SV) :=
  match d with
  | some t => (t, v) :: T
  | none => T
/-- The temporary is one of the function's. -/
def okD (N : Nat) (d : Option Tmp) : Bool :=
  match d with
  | some t => Nat.blt t N
  | none => true

theorem Inv.put {c : Cx} {ρ ρ' : Env} {s : St} {a : Act} {w w' : World} (h : Inv c ρ s a w) {d : Option Tmp} (hd : okD c.fn.ntmps d = true) {v : SV} {M' : List (Nat × SObj)} {n' : Nat} (hag : Env.agree (· < s.n) ρ ρ') (hn : s.n ≤ n')
    (hv : v.sc (· < n')) (hW : WI c.w0 c.L ρ' (look M') (· < n') w') (todo : List Item) : Inv c ρ' ⟨putS s.T d v, M', n', s.D, todo⟩ (a.put d (v.conc ρ')) w' := by
  have hS : ∀ i, i < s.n → i < n' := fun i hi => Nat.lt_of_lt_of_le hi hn
  cases d with
  | none => exact ⟨h.sz, h.tm.keep hag hS _, h.df, hW⟩
  | some t =>
    have ht : t < c.fn.ntmps := by simpa [okD, Nat.blt_eq] using hd
    exact ⟨by simp [Act.put, h.sz], h.tm.put hag hS (by rw [h.sz]; exact ht) hv, h.df, hW⟩

def wantS (ops : List Oper) (T : Tm) (o : Oper) : Option Bool :=
  match o.guard with
  | none => some true
  | some (j, want) => match get ops j with
    | some oj => match oj.dst with
      | some t => match T t with
        | some (.v (.bool b)) => match b with
          | true => some want
          | false => some (!want)
        | some (.v (.tuple _)) => some false
        | _ => none
      | none => none
    | none => none
theorem wantS_ok {ops : Array Oper} {ρ : Env} {T : Tm} {S : Nat → Prop} {a : Act} (h : TmOk ρ T S a) {o : Oper} {b : Bool} (hw : wantS ops.toList T o = some b) : Region.wanted o (yielded ops a.tmps) = b := by
  unfold wantS at hw
  unfold Region.wanted
  split at hw
  · rename_i hg; rw [hg]; exact (Option.some.inj hw)
  · rename_i j want hg
    rw [hg]
    split at hw
    case h_2 => cases hw
    rename_i oj hj
    rw [get_eq, Array.getElem?_toList] at hj
    split at hw
    case h_2 => cases hw
    rename_i t ht
    split at hw
    case h_3 => cases hw
    · rename_i b' hb
      obtain ⟨h1, h2, _⟩ := h t _ hb
      have hy : yielded ops a.tmps j = some b' := by
        simp only [Array.getD_eq_getD_getElem?, Array.getElem?_eq_getElem h1, Option.getD_some, SV.conc] at h2
        simp [yielded, hj, ht, Array.getElem?_eq_getElem h1, h2]
      simp only [hy]
      cases b' <;> cases want <;> simp_all
    · rename_i vs hb
      obtain ⟨h1, h2, _⟩ := h t _ hb
      have hy : yielded ops a.tmps j = none := by
        simp only [Array.getD_eq_getD_getElem?, Array.getElem?_eq_getElem h1, Option.getD_some, SV.conc] at h2
        simp [yielded, hj, ht, Array.getElem?_eq_getElem h1, h2]
      simp only [hy]
      obtain rfl := Option.some.inj hw
      rfl

def upto : Nat → Nat → List Nat
  | _, 0 => []
  | i, m + 1 => i :: upto (i + 1) m
theorem upto_eq : ∀ (m i : Nat), upto i m = List.range' i m
  | 0, i => rfl
  | m + 1, i => by simp [upto, upto_eq m (i + 1), List.range'_succ]
theorem upto_range (m : Nat) : upto 0 m = List.range m := by rw [upto_eq, List.range_eq_range']

def lenL {α : Type} : List α → Nat
  | [] => 0
  | _ :: l => lenL l + 1
theorem lenL_eq {α : Type} : ∀ l : List α, lenL l = l.length
  | [] => rfl
  | _ :: l => by simp [lenL, lenL_eq l]

/-- What an effect leaves of a state, whose next operations are 'todo'. -/
def Eff.st (e : Eff) (s : St) (d : Option Tmp) (todo : List Item) : St :=
  match e with
  | .val _ v => ⟨putS s.T d v, s.M, s.n, s.D, todo⟩
  | .new v o => ⟨putS s.T d v, (s.n, o) :: s.M, s.n + 1, s.D, todo⟩
  | .wr i o => ⟨putS s.T d (.v undef), (i, o) :: s.M, s.n, s.D, todo⟩
  | .call _ _ _ v => ⟨putS s.T d v, s.M, s.n, s.D, todo⟩

section
variable {c : Cx} {s : St} {R : Ending → World → Prop}

theorem Run.mono {R' : Ending → World → Prop} (h : Run c s R) (hr : ∀ e w, R e w → R' e w) : Run c s R' := ⟨fun ρ a w hi => (h.go ρ a w hi).mono hr⟩

theorem Run.step {todo' : List Item} (hs : ∀ ρ a w cs, Inv c ρ s a w → step c.P (lone (fat c.f c.rr a s.todo) cs w) = .next (lone (fat c.f c.rr a todo') cs w)) (h : Run c ⟨s.T, s.M, s.n, s.D, todo'⟩ R) : Run c s R :=
  ⟨fun ρ a w hi => TW.next (fun cs => hs ρ a w cs hi) (h.go ρ a w ⟨hi.sz, hi.tm, hi.df, hi.wi⟩)⟩

theorem Run.op (hc : c.ok) {ops : Array Oper} {i : Nat} {r : List Nat} {k : List Item} {o : Oper} {e : Eff} (ht : s.todo = .inRegion ops (i :: r) :: k) (ho : get ops.toList i = some o)
    (hw : wantS ops.toList (look s.T) o = some true) (hd : okD c.fn.ntmps o.dst = true) (he : opF c.tab c.pf (look s.T) (look s.M) s.n o.op = some e) (hob : e.obl) (h : Run c (e.st s o.dst (.inRegion ops r :: k)) R) : Run c s R := by
  refine ⟨fun ρ a w hi => ?_⟩
  rw [ht]
  rw [get_eq, Array.getElem?_toList] at ho
  refine TW.op ho (wantS_ok hi.tm hw) ?_
  refine (opF_ok hc.tab hc.pf hi.tm hi.wi (Nat.lt_irrefl s.n) he hob).mono fun v w' hp => ?_
  obtain ⟨ρ', h1, rfl, h3, h4⟩ := hp
  cases e with
  | val ob v => exact h.go ρ' _ w' (hi.put hd h1 (Nat.le_refl _) h3 h4 _)
  | call g args bs v => exact h.go ρ' _ w' (hi.put hd h1 (Nat.le_refl _) h3 h4 _)
  | wr j ob => exact h.go ρ' _ w' (hi.put hd h1 (Nat.le_refl _) (v := .v undef) trivial (by rw [look_upd]; exact h4) _)
  | new v ob =>
    have up : ∀ j, j < s.n ∨ j = s.n → j < s.n + 1 := fun j hj => by omega
    exact h.go ρ' _ w' (hi.put hd h1 (Nat.le_succ _) (SV.sc_mono up _ h3) (by rw [look_upd]; exact h4.mono up) _)

theorem Run.pass {ops : Array Oper} {i : Nat} {r : List Nat} {k : List Item} {o : Oper} (ht : s.todo = .inRegion ops (i :: r) :: k) (ho : get ops.toList i = some o)
    (hw : wantS ops.toList (look s.T) o = some false) (hd : okD c.fn.ntmps o.dst = true) (h : Run c ⟨putS s.T o.dst (.v undef), s.M, s.n, s.D, .inRegion ops r :: k⟩ R) : Run c s R := by
  refine ⟨fun ρ a w hi => ?_⟩
  rw [ht]
  rw [get_eq, Array.getElem?_toList] at ho
  exact TW.pass ho (wantS_ok hi.tm hw) (h.go ρ _ w (hi.put hd (Env.agree.refl _ ρ) (Nat.le_refl _) (v := .v undef) trivial hi.wi _))
end

/-- What a result variable reads as. -/
def resM (tmps : Array Value) : ResultVar → Sem Value
  | .tmp t => pure (tmps.getD t undef)
  | .cell t ty => do loadVar ty (← asAddr (tmps.getD t undef))
theorem results_resM (fn : Func) (tmps : Array Value) : results fn tmps = (do let vs ← fn.results.mapM (resM tmps); pure (if h : vs.size = 1 then vs[0] else .tuple vs)) := rfl

def resV (tab : Tab) (T : Tm) (M : Mem) : ResultVar → Option SV
  | .tmp t => T t
  | .cell t ty => match opLoad tab T M ty (.tmp t) with
    | some (.val none v) => some v
    | _ => none
def resVs (tab : Tab) (T : Tm) (M : Mem) : List ResultVar → Option (List SV)
  | [] => some []
  | r :: l => match resV tab T M r with
    | some v => match resVs tab T M l with
      | some vs => some (v :: vs)
      | none => none
    | none => none
def resS (tab : Tab) (T : Tm) (M : Mem) (l : List ResultVar) : Option SV :=
  match resVs tab T M l with
  | some [v] => some v
  | some vs => some (.tup vs)
  | none => none

section
variable {P : Program} {tab : Tab} {w0 w : World} {L : List (Nat × Nat)} {ρ : Env} {T : Tm} {M : Mem} {S : Nat → Prop} {a : Act}
theorem resV_ok (hP : Tab.oks P tab) (hT : TmOk ρ T S a) (hW : WI w0 L ρ M S w) {r : ResultVar} {v : SV} (h : resV tab T M r = some v) :
    (resM a.tmps r).run P w = .ok (v.conc ρ) w ∧ v.sc S := by
  cases r with
  | tmp t => exact ⟨by simp only [resM, Sem.run_pure, (hT t v h).2.1], (hT t v h).2.2⟩
  | cell t ty =>
    simp only [resV] at h
    split at h
    case h_2 => cases h
    rename_i v' hv
    obtain rfl := Option.some.inj h
    obtain ⟨v2, e2, hs, ad, h1, h2⟩ := opLoad_run hP hT hW hv
    obtain rfl : v' = v2 := by injection e2
    have h1' : a.tmps.getD t undef = .pointer (some ad) := h1
    exact ⟨by simp only [resM, h1', asAddr, Sem.run_bind, Sem.run_pure, Result.andThen_ok, h2], hs⟩
theorem resVs_ok (hP : Tab.oks P tab) (hT : TmOk ρ T S a) (hW : WI w0 L ρ M S w) : ∀ {l : List ResultVar} {vs : List SV}, resVs tab T M l = some vs →
    (l.mapM (resM a.tmps)).run P w = .ok (SV.concs ρ vs) w ∧ SV.scs S vs
  | [], vs, h => by simp [resVs] at h; subst h; exact ⟨by simp [SV.concs], trivial⟩
  | r :: l, vs, h => by
    unfold resVs at h
    split at h
    case h_2 => cases h
    rename_i v hv
    split at h
    case h_2 => cases h
    rename_i vs' hvs
    obtain rfl := Option.some.inj h
    obtain ⟨h1, h2⟩ := resV_ok hP hT hW hv
    obtain ⟨h3, h4⟩ := resVs_ok hP hT hW hvs
    refine ⟨?_, h2, h4⟩
    rw [List.mapM_cons]
    simp only [Sem.run_bind, h1, Result.andThen_ok, h3, Sem.run_pure, SV.concs]
theorem resS_ok (hP : Tab.oks P tab) (hT : TmOk ρ T S a) (hW : WI w0 L ρ M S w) {fn : Func} {v : SV} (h : resS tab T M fn.results.toList = some v) : (results fn a.tmps).run P w = .ok (v.conc ρ) w ∧ v.sc S := by
  unfold resS at h
  have key : ∀ vs, resVs tab T M fn.results.toList = some vs → (results fn a.tmps).run P w = .ok (if h : (SV.concs ρ vs).toArray.size = 1 then (SV.concs ρ vs).toArray[0] else .tuple (SV.concs ρ vs).toArray) w := by
    intro vs hvs
    obtain ⟨h1, _⟩ := resVs_ok hP hT hW hvs
    rw [results_resM, Array.mapM_eq_mapM_toList]
    simp only [Sem.run_bind, Sem.run_map, h1, Result.andThen_ok, Sem.run_pure]
  split at h
  · rename_i x hx
    obtain rfl := Option.some.inj h
    have := key _ hx
    exact ⟨by rw [this]; simp [SV.concs], ((resVs_ok hP hT hW hx).2).1⟩
  · rename_i vs hne hvs
    obtain rfl := Option.some.inj h
    have h1 : (SV.concs ρ vs).toArray.size ≠ 1 := by
      intro hc
      have : vs.length = 1 := by simpa [concs_length] using hc
      match vs, this with
      | [x], _ => exact hne x rfl
    exact ⟨by rw [key _ hvs, dif_neg h1]; rfl, (resVs_ok hP hT hW hvs).2⟩
  · cases h
end

/-- What is left to show at a return. -/
structure RetOk (c : Cx) (M : List (Nat × SObj)) (n : Nat) (v : SV) (R : Ending → World → Prop) : Prop where
  h : ∀ ρ w, WI c.w0 c.L ρ (look M) (· < n) w → v.sc (· < n) → R (.returned (v.conc ρ)) w

theorem Run.ret {c : Cx} (hc : c.ok) (hrd : c.rd = none) {T : List (Nat × SV)} {M : List (Nat × SObj)} {n : Nat} {todo : List Item} {R : Ending → World → Prop} {v : SV} (ht : todo = [] ∨ ∃ k, todo = .code .ret :: k)
    (hv : resS c.tab (look T) (look M) c.fn.results.toList = some v) (h : RetOk c M n v R) : Run c ⟨T, M, n, [], todo⟩ R := by
  refine ⟨fun ρ a w hi => ?_⟩
  have hrr : c.rr = none := by simp [Cx.rr, hrd]
  rw [hrr]
  obtain ⟨h1, h2⟩ := resS_ok hc.tab hi.tm hi.wi hv
  rcases ht with rfl | ⟨k, rfl⟩
  · exact TW.fin hc.fn hi.df h1 (h.h ρ w hi.wi h2)
  · exact TW.ret hc.fn hi.df h1 (h.h ρ w hi.wi h2)

/-! ### A round of a range over a function -/
def World.putO (w : World) (l : Nat) (o : Obj) : World := { w with heap := w.heap.setIfInBounds l o }
theorem putO_same {w : World} {l : Nat} {o o' : Obj} (h : w.heap[l]? = some o') : (World.putO w l o).heap[l]? = some o := by
  have hl : l < w.heap.size := (Array.getElem?_eq_some_iff.1 h).1
  simp [World.putO, hl]
theorem putO_other {w : World} {l k : Nat} {o : Obj} (h : k ≠ l) : (World.putO w l o).heap[k]? = w.heap[k]? := by
  simp [World.putO, Ne.symm h]
theorem putO_size {w : World} {l : Nat} {o : Obj} : (World.putO w l o).heap.size = w.heap.size := by simp [World.putO]
theorem WI.putO {w0 w : World} {L : List (Nat × Nat)} {ρ : Env} {M : Mem} {S : Nat → Prop} (hW : WI w0 L ρ M S w) {i : Nat} {o o' : Obj} (hi : M i = some (.obj o)) (ho : ∀ c t f, o' ≠ .cells c t f) : WI w0 L ρ (upd M i (.obj o')) S (World.putO w (ρ.s i) o') := by
  obtain ⟨_, _, _, h3⟩ := hW.mem i _ hi
  exact hW.write (o' := .obj o') hi trivial trivial (putO_same h3) (fun hh => ⟨ho, hh⟩) (fun k hk => putO_other hk) putO_size rfl rfl rfl
theorem run_getLoop {P : Program} {w : World} {l : Nat} {r : Loop} (h : w.heap[l]? = some (.loop r)) : (Instr.getLoop l).run P w = .ok r w := by
  simp [Instr.getLoop, getObj, Sem.run, h, Sem.run_bind]
theorem run_setObj {P : Program} {w : World} {l : Nat} {o o' : Obj} (h : w.heap[l]? = some o) (ho : ∀ c t f, o ≠ .cells c t f) : (setObj l o').run P w = .ok () (World.putO w l o') := by
  cases o <;> first
    | exact absurd rfl (ho _ _ _)
    | simp [setObj, Sem.run, h, World.putO]
theorem run_beginRound {P : Program} {w : World} {l : Nat} {r : Loop} (h : w.heap[l]? = some (.loop r)) (hr : r.state = .ready) : (Instr.beginRound l).run P w = .ok () (World.putO w l (.loop { r with state := .busy })) := by
  simp [Instr.beginRound, run_getLoop h, run_setObj h (fun _ _ _ => by simp), hr]
theorem run_endRound {P : Program} {w : World} {l : Nat} {r : Loop} (h : w.heap[l]? = some (.loop r)) : (Instr.endRound l none).run P w = .ok (.bool true) (World.putO w l (.loop { r with state := .ready, pending := none })) := by
  simp [Instr.endRound, run_getLoop h, run_setObj h (fun _ _ _ => by simp)]
theorem TW.beginRound {P : Program} {f : FuncId} {l : Nat} {a : Act} {k : List Item} {w : World} {R : Ending → World → Prop} {r : Loop} (h : w.heap[l]? = some (.loop r)) (hr : r.state = .ready)
    (hk : TW P f (some l) a k (World.putO w l (.loop { r with state := .busy })) R) : TW P f (some l) a (.beginRound :: k) w R := by
  intro cs hcs
  obtain ⟨m, h1, h2⟩ := hk cs hcs
  refine ⟨m, h1, .head (step_lone_go ?_) h2⟩
  have hrun : (do (some l).elim (stuck "beginRound: no round") Instr.beginRound; pure .skip : Sem Next).run P w = .ok .skip (World.putO w l (.loop { r with state := .busy })) := by
    simp [run_beginRound h hr]
  simp only [stepG, stepG.exec, fat, stepG.apply, Sem.runT_eq, hrun, if_true]
  simp [Frame.finish]
theorem TW.endRound {P : Program} {f : FuncId} {l : Nat} {a : Act} {w : World} {R : Ending → World → Prop} {r : Loop} (h : w.heap[l]? = some (.loop r)) (hr : R (.returned (.bool true)) (World.putO w l (.loop { r with state := .ready, pending := none }))) :
    TW P f (some l) a [] w R := by
  intro cs hcs
  cases cs with
  | nil => exact absurd rfl (hcs rfl)
  | cons c cs =>
    refine ⟨_, ⟨true, c, cs, _, rfl, hr, rfl⟩, .one (step_lone_go ?_)⟩
    simp only [stepG, stepG.exec, fat, Sem.runT_eq, run_endRound (P := P) h]
    simp [doReturn]

/-! A value, a list, a block brought to their heads, ere one goes on. -/
def forceX (x : Value) (K : SV → Prop) : Prop :=
  match x with
  | .bool b => K (.v (.bool b))
  | .int k n => K (.v (.int k n))
  | x => K (.v x)
theorem forceX_eq (x : Value) (K : SV → Prop) : forceX x K = K (.v x) := by unfold forceX; split <;> rfl
def force1 (v : SV) (K : SV → Prop) : Prop :=
  match v with
  | .v x => forceX x K
  | .ptr i off => K (.ptr i off)
  | .slc i off len cap => K (.slc i off len cap)
  | .opq i => K (.opq i)
  | .fn f caps => K (.fn f caps)
  | .agg cs => K (.agg cs)
  | .tup vs => K (.tup vs)
theorem force1_eq (v : SV) (K : SV → Prop) : force1 v K = K v := by cases v <;> simp only [force1, forceX_eq]
def forceL : List SV → (List SV → Prop) → Prop
  | [], K => K []
  | a :: l, K => force1 a fun a => forceL l fun l => K (a :: l)
theorem forceL_eq : ∀ (l : List SV) (K : List SV → Prop), forceL l K = K l
  | [], _ => rfl
  | a :: l, K => by simp only [forceL, force1_eq, forceL_eq l]
def forceV (v : SV) (K : SV → Prop) : Prop :=
  match v with
  | .v x => forceX x K
  | .ptr i off => K (.ptr i off)
  | .slc i off len cap => K (.slc i off len cap)
  | .opq i => K (.opq i)
  | .fn f caps => forceL caps fun caps => K (.fn f caps)
  | .agg cs => forceL cs fun cs => K (.agg cs)
  | .tup vs => forceL vs fun vs => K (.tup vs)
theorem forceV_eq (v : SV) (K : SV → Prop) : forceV v K = K v := by cases v <;> simp only [forceV, forceL_eq, forceX_eq]
def forceO (o : SObj) (K : SObj → Prop) : Prop :=
  match o with
  | .cells cs t => forceL cs fun cs => K (.cells cs t)
  | .row e n xs t => K (.row e n xs t)
  | .obj o => K (.obj o)
  | .win vs => K (.win vs)
theorem forceO_eq (o : SObj) (K : SObj → Prop) : forceO o K = K o := by cases o <;> simp only [forceO, forceL_eq]
def putK (T : List (Nat × SV)) (d : Option Tmp) (v : SV) (K : List (Nat × SV) → Prop) : Prop :=
  match d with
  | some t => forceV v fun v => K ((t, v) :: T)
  | none => K T
theorem putK_eq (T : List (Nat × SV)) (d : Option Tmp) (v : SV) (K : List (Nat × SV) → Prop) : putK T d v K = K (putS T d v) := by cases d <;> simp only [putK, putS, forceV_eq]
def wantK (ops : List Oper) (T : Tm) (g : Option (Nat × Bool)) (stop : Prop) (K : Bool → Prop) : Prop :=
  match g with
  | none => K true
  | some (j, want) => match get ops j with
    | some oj => match oj.dst with
      | some t => match T t with
        | some (.v (.bool b)) => match b with
          | true => K want
          | false => K (!want)
        | some (.v (.tuple _)) => K false
        | _ => stop
      | none => stop
    | none => stop
theorem wantK_elim {ops : List Oper} {T : Tm} {o : Oper} {stop : Prop} {K : Bool → Prop} (h : wantK ops T o.guard stop K) : stop ∨ ∃ b, wantS ops T o = some b ∧ K b := by
  unfold wantK at h
  unfold wantS
  split at h
  · exact .inr ⟨_, rfl, h⟩
  · rename_i j want hg
    split at h
    case h_2 => exact .inl h
    rename_i oj hj
    split at h
    case h_2 => exact .inl h
    rename_i t ht
    split at h
    case h_3 => exact .inl h
    · rename_i b hb
      right
      cases b
      · exact ⟨_, rfl, h⟩
      · exact ⟨_, rfl, h⟩
    · rename_i vs hb
      right
      exact ⟨_, rfl, h⟩

/-! ### Beginning and end -/
def numb : Nat → List SV → List (Nat × SV)
  | _, [] => []
  | i, v :: l => (i, v) :: numb (i + 1) l
theorem numb_look : ∀ (l : List SV) (i t : Nat) (v : SV), look (numb i l) t = some v → i ≤ t ∧ l[t - i]? = some v
  | [], i, t, v, h => by simp [numb, look] at h
  | x :: l, i, t, v, h => by
    simp only [numb, look_cons] at h
    split at h
    · rename_i e; subst e; exact ⟨Nat.le_refl _, by simpa using h⟩
    · obtain ⟨h1, h2⟩ := numb_look l (i + 1) t v h
      exact ⟨by omega, by rw [show t - i = (t - (i + 1)) + 1 by omega]; simpa using h2⟩

/-- A call: its body's run, from its arguments. -/
theorem Run.calls {P : Program} {tab : Tab} {pf : PF} {cuts : List (Nat × Nat)} {f : FuncId} {fn : Func} {cd : Code} {w : World} {L : List (Nat × Nat)} {R : Ending → World → Prop} (hf : P.funcs[f]? = some fn) (hb : fn.body = some cd) (ρ : Env) (args : List SV) (M : List (Nat × SObj)) (n : Nat)
    (hs : SV.scs (· < n) args) (hN : Nat.ble (lenL args) fn.ntmps = true) (hW : WI w L ρ (look M) (· < n) w)
    (h : Run ⟨P, tab, pf, f, fn, cuts, w, L, none⟩ ⟨numb 0 args, M, n, [], [.code cd]⟩ R) : Calls P f (SV.concs ρ args).toArray w R := by
  have hN : args.length ≤ fn.ntmps := by rw [← lenL_eq]; exact Nat.le_of_ble_eq_true hN
  refine TW.calls hf hb (h.go ρ _ w ⟨?_, ?_, rfl, hW⟩)
  · simp [concs_length]; omega
  · intro t v ht
    obtain ⟨_, h2⟩ := numb_look args 0 t v ht
    simp only [Nat.sub_zero] at h2
    have hlt : t < args.length := by
      rcases Nat.lt_or_ge t args.length with h | h
      · exact h
      · rw [List.getElem?_eq_none h] at h2; cases h2
    refine ⟨by simp [concs_length]; omega, ?_, (scs_iff _ _).1 hs v (List.mem_of_getElem? h2)⟩
    have : ((SV.concs ρ args).toArray ++ Array.replicate (fn.ntmps - (SV.concs ρ args).toArray.size) undef)[t]? = some (v.conc ρ) := by
      rw [Array.getElem?_append_left (by simp [concs_length]; exact hlt)]
      simp [concs_map, h2]
    rw [Array.getD_eq_getD_getElem?, this]; rfl

/-! ### A call that only computes -/
def env0 : Env := ⟨fun _ => 0, fun _ => 0, fun _ => (none, 0, 0)⟩
theorem WI.start (w : World) (ρ : Env) : WI w [] ρ (look []) (· < 0) w where
  mem i o h := by simp [look] at h
  dist i j o o' h := by simp [look] at h
  new i o h := by simp [look] at h
  lid p h := by simp at h
  keep k _ _ := rfl
  size := Nat.le_refl _
  os := rfl
  tape := rfl
  output := rfl
theorem WI.toExt {w0 w : World} {ρ : Env} {M : Mem} {S : Nat → Prop} (h : WI w0 [] ρ M S w) : Ext w0 w :=
  ⟨fun k hk => h.keep k hk (by simp), h.size, h.os, h.tape, h.output⟩
end Go.Sx
