/-
  A small symbolic executor over the model (part B): runs of one frame ('TW'), one operation's outcome ('Oc'), and the laws of the single operations.
  No condition: these are definitions and laws that hold of every program.
-/
import Derived.Test.YtoipnojibkjjnaaSxA
namespace Go.Sx

/-- A frame that runs: of a function ('none'), or of a round of a range over a function (its loop's block). -/
def fat (f : FuncId) (rd : Option Nat) (a : Act) (todo : List Item) : Frame := { fn := f, tmps := a.tmps, todo, defers := a.defers, mode := .run, kind := .normal, roundOf := rd }

/-- How a run ends: the function leaves with a value; the round has handed its answer to the one that called yield. -/
def Ends (P : Program) (f : FuncId) (rd : Option Nat) (R : Ending → World → Prop) (cs : List Frame) (m : Machine) : Prop :=
  match rd with
  | none => ∃ v w' fr, R (.returned v) w' ∧ m = lone fr cs w' ∧ fr.fn = f ∧ fr.leaving P w' (.returned v)
  | some _ => ∃ b c cs' w', cs = c :: cs' ∧ R (.returned (.bool b)) w' ∧ m = lone (c.finish (.bool b)) cs' w'

/-- From this state of its frame the run comes to an ending of which R holds. -/
def TW (P : Program) (f : FuncId) (rd : Option Nat) (a : Act) (todo : List Item) (w : World) (R : Ending → World → Prop) : Prop :=
  ∀ (cs : List Frame), (rd.isSome = true → cs ≠ []) → ∃ m, Ends P f rd R cs m ∧ Steps P (lone (fat f rd a todo) cs w) m

theorem TW.next {P : Program} {f : FuncId} {rd : Option Nat} {a a' : Act} {todo todo' : List Item} {w w' : World} {R : Ending → World → Prop}
    (h : ∀ cs, step P (lone (fat f rd a todo) cs w) = .next (lone (fat f rd a' todo') cs w')) (k : TW P f rd a' todo' w' R) : TW P f rd a todo w R := by
  intro cs hcs
  obtain ⟨m, h1, h2⟩ := k cs hcs
  exact ⟨m, h1, .head (h cs) h2⟩

theorem TW.mono {P : Program} {f : FuncId} {rd : Option Nat} {a : Act} {todo : List Item} {w : World} {R R' : Ending → World → Prop} (h : TW P f rd a todo w R) (hr : ∀ e w, R e w → R' e w) : TW P f rd a todo w R' := by
  intro cs hcs
  obtain ⟨m, h1, h2⟩ := h cs hcs
  refine ⟨m, ?_, h2⟩
  cases rd with
  | none => obtain ⟨v, w', fr, g1, g2⟩ := h1; exact ⟨v, w', fr, hr _ _ g1, g2⟩
  | some l => obtain ⟨b, c, cs', w', g1, g2, g3⟩ := h1; exact ⟨b, c, cs', w', g1, hr _ _ g2, g3⟩

theorem TW.calls {P : Program} {f : FuncId} {fn : Func} {c : Code} {args : Array Value} {w : World} {R : Ending → World → Prop} (hf : P.funcs[f]? = some fn) (hb : fn.body = some c)
    (h : TW P f none { tmps := args ++ Array.replicate (fn.ntmps - args.size) undef, defers := [] } [.code c] w R) : Calls P f args w R := by
  intro cs
  have henter : Frame.enter P f args .normal = fat f none { tmps := args ++ Array.replicate (fn.ntmps - args.size) undef, defers := [] } [.code c] := by
    simp [Frame.enter, fat, hf, hb]
  rw [henter]
  obtain ⟨m, ⟨v, w', fr, g1, rfl, g3, g4⟩, h2⟩ := h cs (by simp)
  exact ⟨.returned v, w', fr, g1, h2, g3, g4⟩

section steps
variable {P : Program} {f : FuncId} {rd : Option Nat} {a : Act} {k : List Item} {cs : List Frame} {w : World}
theorem fstep_skip : step P (lone (fat f rd a (.code .skip :: k)) cs w) = .next (lone (fat f rd a k) cs w) := step_lone_go (by simp [stepG, stepG.exec, fat])
theorem fstep_label {l : Nat} : step P (lone (fat f rd a (.code (.label l) :: k)) cs w) = .next (lone (fat f rd a k) cs w) := step_lone_go (by simp [stepG, stepG.exec, fat])
theorem fstep_inBlock {id : Nat} : step P (lone (fat f rd a (.inBlock id :: k)) cs w) = .next (lone (fat f rd a k) cs w) := step_lone_go (by simp [stepG, stepG.exec, fat])
theorem fstep_inScope {c : Code} : step P (lone (fat f rd a (.inScope c :: k)) cs w) = .next (lone (fat f rd a k) cs w) := step_lone_go (by simp [stepG, stepG.exec, fat])
theorem fstep_seq {x y : Code} : step P (lone (fat f rd a (.code (.seq x y) :: k)) cs w) = .next (lone (fat f rd a (.code x :: .code y :: k)) cs w) := step_lone_go (by simp [stepG, stepG.exec, fat])
theorem fstep_scope {x : Code} : step P (lone (fat f rd a (.code (.scope x) :: k)) cs w) = .next (lone (fat f rd a (.code x :: .inScope x :: k)) cs w) := step_lone_go (by simp [stepG, stepG.exec, fat])
theorem fat_eval (f : FuncId) (rd : Option Nat) (a : Act) (todo : List Item) : (fat f rd a todo).eval = a.eval := by funext x; cases x <;> rfl
theorem fstep_cond {c : Operand} {x y : Code} {t : Bool} (h : a.eval c = .bool t) : step P (lone (fat f rd a (.code (.cond c x y) :: k)) cs w) = .next (lone (fat f rd a (.code (if t then x else y) :: k)) cs w) :=
  step_lone_go (by
    have := congrFun (fat_eval f rd a (.code (.cond c x y) :: k)) c
    simp only [fat] at this
    simp [stepG, stepG.exec, fat, this, h])
theorem fstep_block {id : Nat} {c : Code} : step P (lone (fat f rd a (.code (.block id c) :: k)) cs w) = .next (lone (fat f rd a (.code c :: .inBlock id :: k)) cs w) := step_lone_go (by simp [stepG, stepG.exec, fat])
theorem fstep_loop {c : Code} : step P (lone (fat f rd a (.code (.loop c) :: k)) cs w) = .next (lone (fat f rd a (.code c :: .inLoop c :: k)) cs w) := step_lone_go (by simp [stepG, stepG.exec, fat])
theorem fstep_inLoop {c : Code} : step P (lone (fat f rd a (.inLoop c :: k)) cs w) = .next (lone (fat f rd a (.code c :: .inLoop c :: k)) cs w) := step_lone_go (by simp [stepG, stepG.exec, fat])
theorem fstep_exit {id : Nat} {k' : List Item} (h : exitTo id k = some k') : step P (lone (fat f rd a (.code (.exit id) :: k)) cs w) = .next (lone (fat f rd a k') cs w) := step_lone_go (by simp [stepG, stepG.exec, fat, h])
theorem fstep_region {id : Nat} {ops : Array Oper} : step P (lone (fat f rd a (.code (.region id ops false) :: k)) cs w) = .next (lone (fat f rd a (.inRegion ops (List.range ops.size) :: k)) cs w) := step_lone_go (by simp [stepG, stepG.exec, fat])
theorem fstep_region_draw {id : Nat} {ops : Array Oper} : step P (lone (fat f rd a (.code (.region id ops true) :: k)) cs w) =
    .next (lone (fat f rd a (.inRegion ops (Region.schedule (P.follows .mixedOrders) ops (w.tape w.drawn (.order f id))) :: k)) cs w.drew) :=
  step_lone_go (by simp [stepG, stepG.exec, fat, choose, Sem.run, Question.forced, Question.cut])
theorem fstep_region_end {ops : Array Oper} : step P (lone (fat f rd a (.inRegion ops [] :: k)) cs w) = .next (lone (fat f rd a k) cs w) := step_lone_go (by simp [stepG, stepG.exec, fat])
theorem fat_finish {ops : Array Oper} {i : Nat} {rest : List Nat} {v : Value} : (fat f rd a (.inRegion ops (i :: rest) :: k)).finish v = fat f rd (a.put ((ops[i]?).bind (·.dst)) v) (.inRegion ops rest :: k) := by
  cases h : (ops[i]?).bind (·.dst) <;> simp [Frame.finish, fat, Act.put, h]
theorem fstep_op_skip {ops : Array Oper} {i : Nat} {rest : List Nat} (h : ((ops[i]?).map (Region.wanted · (yielded ops a.tmps))).getD false = false) :
    step P (lone (fat f rd a (.inRegion ops (i :: rest) :: k)) cs w) = .next (lone (fat f rd (a.put ((ops[i]?).bind (·.dst)) undef) (.inRegion ops rest :: k)) cs w) := by
  rw [← fat_finish]
  exact step_lone_go (by
    have h' := h
    simp only [fat] at *
    simp [stepG, stepG.exec, h'])
theorem fstep_op {ops : Array Oper} {i : Nat} {rest : List Nat} {o : Oper} (ho : ops[i]? = some o) (hw : Region.wanted o (yielded ops a.tmps) = true) (hnd : ∀ c, o.op ≠ .defer c) :
    stepG P true { frame := fat f rd a (.inRegion ops (i :: rest) :: k), callers := cs, status := .running, dying := none } w =
      stepG.apply P true (fat f rd a (.inRegion ops (i :: rest) :: k)) cs none (execOp a.eval o) w := by
  have he := fat_eval f rd a (.inRegion ops (i :: rest) :: k)
  simp only [fat] at he
  cases hop : o.op <;> first
    | exact absurd hop (hnd _)
    | (cases rd <;> simp [stepG, stepG.exec, stepG.oper, Frame.oper?, fat, ho, hw, he, hop])
end steps

theorem TW.ret {P : Program} {f : FuncId} {fn : Func} {a : Act} {k : List Item} {w : World} {R : Ending → World → Prop} {v : Value} (hf : P.funcs[f]? = some fn) (hd : a.defers = [])
    (hr : (results fn a.tmps).run P w = .ok v w) (h : R (.returned v) w) : TW P f none a (.code .ret :: k) w R := fun _ _ =>
  ⟨_, ⟨v, w, _, h, rfl, rfl, rfl, hd, rfl, fn, hf, hr⟩, .one (step_lone_go (by simp [stepG, stepG.exec, fat]; rfl))⟩
theorem TW.fin {P : Program} {f : FuncId} {fn : Func} {a : Act} {w : World} {R : Ending → World → Prop} {v : Value} (hf : P.funcs[f]? = some fn) (hd : a.defers = [])
    (hr : (results fn a.tmps).run P w = .ok v w) (h : R (.returned v) w) : TW P f none a [] w R := fun _ _ =>
  ⟨_, ⟨v, w, _, h, rfl, rfl, rfl, hd, rfl, fn, hf, hr⟩, .one (step_lone_go (by simp [stepG, stepG.exec, fat]; rfl))⟩

/-- What one operation comes to: a value, or nothing, or a call that returns. -/
def Oc (P : Program) (a : Act) (o : Oper) (w : World) (K : Value → World → Prop) : Prop :=
  match (execOp a.eval o).run P w with
  | .ok (.value v) w' => K v w'
  | .ok .skip w' => K undef w'
  | .ok (.enter f args) w' => Calls P f args w' fun e w'' => ∃ v, e = .returned v ∧ K v w''
  | _ => False

theorem Oc.mono {P : Program} {a : Act} {o : Oper} {w : World} {K K' : Value → World → Prop} (h : Oc P a o w K) (hk : ∀ v w', K v w' → K' v w') : Oc P a o w K' := by
  unfold Oc at *
  split at h
  · exact hk _ _ h
  · exact hk _ _ h
  · exact h.mono fun e w' ⟨v, h1, h2⟩ => ⟨v, h1, hk _ _ h2⟩
  · exact h.elim

theorem Oc.value {P : Program} {a : Act} {o : Oper} {w w' : World} {K : Value → World → Prop} {v : Value} (h : (execOp a.eval o).run P w = .ok (.value v) w') (hk : K v w') : Oc P a o w K := by
  unfold Oc; rw [h]; exact hk
theorem Oc.skip {P : Program} {a : Act} {o : Oper} {w w' : World} {K : Value → World → Prop} (h : (execOp a.eval o).run P w = .ok .skip w') (hk : K undef w') : Oc P a o w K := by
  unfold Oc; rw [h]; exact hk

theorem Oc.noDefer {P : Program} {a : Act} {o : Oper} {w : World} {K : Value → World → Prop} (h : Oc P a o w K) : ∀ c, o.op ≠ .defer c := by
  intro c hc
  unfold Oc at h
  have hr : (execOp a.eval o).run P w = ((resolve a.eval c o.type).run P w).andThen fun d w' => .ok (.defer d) w' := by simp [execOp, hc]
  rw [hr] at h
  cases hq : (resolve a.eval c o.type).run P w with
  | ok d w' => rw [hq] at h; exact h
  | halt x w' => rw [hq] at h; exact h

theorem TW.op {P : Program} {f : FuncId} {rd : Option Nat} {a : Act} {ops : Array Oper} {i : Nat} {rest : List Nat} {k : List Item} {w : World} {R : Ending → World → Prop} {o : Oper} (ho : ops[i]? = some o)
    (hw : Region.wanted o (yielded ops a.tmps) = true) (h : Oc P a o w fun v w' => TW P f rd (a.put o.dst v) (.inRegion ops rest :: k) w' R) :
    TW P f rd a (.inRegion ops (i :: rest) :: k) w R := by
  intro cs hcs
  have hg := fstep_op (P := P) (f := f) (rd := rd) (a := a) (k := k) (cs := cs) (w := w) (rest := rest) ho hw h.noDefer
  have hfin : ∀ v, (fat f rd a (.inRegion ops (i :: rest) :: k)).finish v = fat f rd (a.put o.dst v) (.inRegion ops rest :: k) := by
    intro v; rw [fat_finish, ho]; rfl
  unfold Oc at h
  split at h
  · rename_i v w' hr
    obtain ⟨m, h1, h2⟩ := h cs hcs
    refine ⟨m, h1, .head (step_lone_go ?_) h2⟩
    rw [hg, ← hfin]; simp [stepG.apply, hr]
  · rename_i w' hr
    obtain ⟨m, h1, h2⟩ := h cs hcs
    refine ⟨m, h1, .head (step_lone_go ?_) h2⟩
    rw [hg, ← hfin]; simp [stepG.apply, hr]
  · rename_i g args w' hr
    obtain ⟨e, w'', fr, ⟨v, rfl, hR⟩, hsteps, _, hleave⟩ := h (fat f rd a (.inRegion ops (i :: rest) :: k) :: cs)
    have henter : step P (lone (fat f rd a (.inRegion ops (i :: rest) :: k)) cs w) = .next (lone (Frame.enter P g args .normal) (fat f rd a (.inRegion ops (i :: rest) :: k) :: cs) w') :=
      step_lone_go (by rw [hg]; simp [stepG.apply, hr, fat])
    obtain ⟨m, h1, h2⟩ := hR cs hcs
    refine ⟨m, h1, .head henter (Steps.trans hsteps (.head ?_ h2))⟩
    rw [← hfin]; exact step_leave_returned hleave
  · exact h.elim

theorem TW.pass {P : Program} {f : FuncId} {rd : Option Nat} {a : Act} {ops : Array Oper} {i : Nat} {rest : List Nat} {k : List Item} {w : World} {R : Ending → World → Prop} {o : Oper} (ho : ops[i]? = some o)
    (hw : Region.wanted o (yielded ops a.tmps) = false) (h : TW P f rd (a.put o.dst undef) (.inRegion ops rest :: k) w R) : TW P f rd a (.inRegion ops (i :: rest) :: k) w R := by
  refine TW.next (fun cs => ?_) h
  have hs := fstep_op_skip (P := P) (f := f) (rd := rd) (a := a) (k := k) (cs := cs) (w := w) (ops := ops) (i := i) (rest := rest) (by simp [ho, hw])
  simpa [ho] using hs

/-! ### The types' table -/
inductive Sh where
  | str (fs : List (Nat × Nat × Bool))
  | arr (n e : Nat) (agg : Bool)
  | slc (e : TypeId) (n b : Nat)
  | int (k : IntKind)
  | bool
  | string
  | ptr
  | fn
  | map (k e : TypeId)
  | other

structure TI where
  size : Nat
  zero : List Value
  sh : Sh
  eqn : Option Nat := none

/-- A struct of n integers, one cell each, that '==' compares. -/
def eqInts (P : Program) (t : TypeId) (n : Nat) : Bool :=
  !P.stoodInHeld t && !P.eqGuardType P.depth t && match P.underlying t with
    | some (.struct fs) => fs.toList.length == n && fs.toList.zipIdx.all fun (f, i) => f.name != "_" && f.offset == i && (match P.underlying f.type with | some (.int _) => true | _ => false)
    | _ => false

def isAggD : TypeDesc → Bool
  | .struct _ | .array .. => true
  | _ => false
def fieldSh (P : Program) (t : TypeId) : Nat × Bool :=
  match P.info? t, P.underlying t with
  | some i, some d => (i.size, isAggD d)
  | _, _ => (0, false)
def shOf (P : Program) : TypeDesc → Sh
  | .struct fields => .str (fields.toList.map fun f => (f.offset, fieldSh P f.type))
  | .array n e => .arr n (fieldSh P e).1 (fieldSh P e).2
  | .slice e => match P.info? e with
    | some i => .slc e i.size i.bytes
    | none => .other
  | .int k => .int k
  | .bool => .bool
  | .string => .string
  | .pointer _ => .ptr
  | .func .. => .fn
  | .map k e => .map k e
  | _ => .other
def Sh.isAgg : Sh → Bool
  | .str _ | .arr .. => true
  | _ => false

structure TI.ok (P : Program) (t : TypeId) (ti : TI) : Prop where
  info : (P.info? t).map (fun i => (i.size, i.zero.map (·.cells.toList))) = some (ti.size, some ti.zero)
  und : (P.underlying t).map (shOf P) = some ti.sh
  eq : ti.eqn.all (eqInts P t) = true

abbrev Tab := List (Nat × TI)
def Tab.oks (P : Program) : Tab → Prop
  | [] => True
  | x :: l => TI.ok P x.1 x.2 ∧ Tab.oks P l
theorem Tab.ok_look {P : Program} : ∀ {tab : Tab}, Tab.oks P tab → ∀ {t ti}, look tab t = some ti → TI.ok P t ti
  | [], _, t, ti, h => by simp [look] at h
  | (k, x) :: l, h, t, ti, hl => by
    rw [look_cons] at hl
    split at hl
    · rename_i e; obtain rfl := Option.some.inj hl; subst e; exact h.1
    · exact Tab.ok_look h.2 hl

theorem TI.ok.infos {P : Program} {t : TypeId} {ti : TI} (h : TI.ok P t ti) : ∃ i z, P.info? t = some i ∧ i.size = ti.size ∧ i.zero = some z ∧ z.cells.toList = ti.zero := by
  have := h.info
  cases hi : P.info? t with
  | none => simp [hi] at this
  | some i =>
    cases hz : i.zero with
    | none => simp [hi, hz] at this
    | some z => simp [hi, hz] at this; exact ⟨i, z, rfl, this.1, hz, this.2⟩
theorem TI.ok.desc {P : Program} {t : TypeId} {ti : TI} (h : TI.ok P t ti) : ∃ d, P.underlying t = some d ∧ shOf P d = ti.sh := by
  have := h.und
  cases hi : P.underlying t with
  | none => simp [hi] at this
  | some d => simp [hi] at this; exact ⟨d, rfl, this⟩
theorem isAgg_sh {P : Program} (d : TypeDesc) : (shOf P d).isAgg = isAggD d := by
  cases d <;> try rfl
  case slice e => simp only [shOf, isAggD]; split <;> rfl

section
variable {P : Program} {w : World}
theorem run_size {t : TypeId} {ti : TI} (h : TI.ok P t ti) : (sizeOf t).run P w = .ok ti.size w := by
  obtain ⟨i, z, h1, h2, h3, h4⟩ := h.infos
  simp [sizeOf, typeInfo, h1, h2]
theorem run_und {t : TypeId} {d : TypeDesc} (h : P.underlying t = some d) : (underlying t).run P w = .ok d w := by
  simp [underlying, h]
theorem run_isAgg {t : TypeId} {ti : TI} (h : TI.ok P t ti) : (Go.isAgg t).run P w = .ok ti.sh.isAgg w := by
  obtain ⟨d, h1, h2⟩ := h.desc
  rw [← h2, isAgg_sh]
  unfold Go.isAgg
  simp only [Sem.run_bind, run_und h1, Result.andThen_ok]
  cases d <;> rfl
theorem run_zero {t : TypeId} {ti : TI} (h : TI.ok P t ti) : ∃ z, (zeroValue t).run P w = .ok z w ∧ z.cells = ti.zero.toArray := by
  obtain ⟨i, z, h1, h2, h3, h4⟩ := h.infos
  exact ⟨z, by simp [zeroValue, typeInfo, h1, h3], by rw [← h4]⟩
end

/-! ### Values of operands -/
abbrev Tm := Nat → Option SV
def ev (T : Tm) : Operand → Option SV
  | .tmp t => T t
  | .const v => some (.v v)
  | .global g => some (.v (.pointer (some ⟨g, 0, none⟩)))
  | .func f => some (.v (.func (.func f) #[] #[]))
/-- What the symbolic temporaries say of the real ones. -/
def TmOk (ρ : Env) (T : Tm) (S : Nat → Prop) (a : Act) : Prop := ∀ t v, T t = some v → t < a.tmps.size ∧ a.tmps.getD t undef = v.conc ρ ∧ v.sc S
theorem ev_ok {ρ : Env} {T : Tm} {S : Nat → Prop} {a : Act} (h : TmOk ρ T S a) {x : Operand} {v : SV} (hx : ev T x = some v) : a.eval x = v.conc ρ ∧ v.sc S := by
  cases x with
  | tmp t => exact ⟨(h t v hx).2.1, (h t v hx).2.2⟩
  | const c => simp [ev] at hx; subst hx; exact ⟨rfl, trivial⟩
  | global g => simp [ev] at hx; subst hx; exact ⟨rfl, trivial⟩
  | func f => simp [ev] at hx; subst hx; exact ⟨rfl, trivial⟩
def evs (T : Tm) : List Operand → Option (List SV)
  | [] => some []
  | x :: l => match ev T x with
    | some v => match evs T l with
      | some vs => some (v :: vs)
      | none => none
    | none => none
theorem evs_ok {ρ : Env} {T : Tm} {S : Nat → Prop} {a : Act} (h : TmOk ρ T S a) : ∀ {l : List Operand} {vs : List SV}, evs T l = some vs → l.map a.eval = SV.concs ρ vs ∧ SV.scs S vs
  | [], vs, hl => by simp [evs] at hl; subst hl; exact ⟨rfl, trivial⟩
  | x :: l, vs, hl => by
    unfold evs at hl
    cases hx : ev T x with
    | none => simp [hx] at hl
    | some v =>
      cases hr : evs T l with
      | none => simp [hx, hr] at hl
      | some vs' =>
        simp [hx, hr] at hl
        subst hl
        obtain ⟨h1, h2⟩ := ev_ok h hx
        obtain ⟨h3, h4⟩ := evs_ok h hr
        exact ⟨by simp [SV.concs, h1, h3], h2, h4⟩

/-! ### Lists -/
def get {α : Type} : List α → Nat → Option α
  | [], _ => none
  | a :: _, 0 => some a
  | _ :: l, n + 1 => get l n
def set {α : Type} : List α → Nat → α → List α
  | [], _, _ => []
  | _ :: l, 0, b => b :: l
  | a :: l, n + 1, b => a :: set l n b
def takeD {α : Type} : List α → Nat → Nat → Option (List α)
  | _, 0, 0 => some []
  | [], 0, _ + 1 => none
  | a :: l, 0, n + 1 => match takeD l 0 n with
    | some r => some (a :: r)
    | none => none
  | [], _ + 1, _ => none
  | _ :: l, i + 1, n => takeD l i n
def writeD {α : Type} : List α → Nat → List α → Option (List α)
  | l, 0, [] => some l
  | [], 0, _ :: _ => none
  | _ :: l, 0, b :: r => match writeD l 0 r with
    | some r' => some (b :: r')
    | none => none
  | [], _ + 1, _ => none
  | a :: l, i + 1, r => match writeD l i r with
    | some r' => some (a :: r')
    | none => none
theorem get_eq {α : Type} : ∀ (l : List α) (n : Nat), get l n = l[n]?
  | [], _ => by simp [get]
  | _ :: _, 0 => by simp [get]
  | _ :: l, n + 1 => by simp [get, get_eq l n]
theorem set_eq {α : Type} : ∀ (l : List α) (n : Nat) (b : α), set l n b = l.set n b
  | [], _, _ => by simp [set]
  | _ :: _, 0, _ => by simp [set]
  | _ :: l, n + 1, b => by simp [set, set_eq l n b]
theorem takeD_eq {α : Type} : ∀ (l : List α) (i n : Nat) (r : List α), takeD l i n = some r → i + n ≤ l.length ∧ r = (l.drop i).take n
  | l, 0, 0, r, h => by cases l <;> simp [takeD] at h <;> simp [h]
  | [], 0, n + 1, r, h => by simp [takeD] at h
  | a :: l, 0, n + 1, r, h => by
    cases hl : takeD l 0 n with
    | none => simp [takeD, hl] at h
    | some r' =>
      simp [takeD, hl] at h
      obtain ⟨h1, h2⟩ := takeD_eq l 0 n r' hl
      subst h h2
      simp at h1 ⊢; omega
  | [], i + 1, n, r, h => by simp [takeD] at h
  | a :: l, i + 1, n, r, h => by
    simp [takeD] at h
    obtain ⟨h1, h2⟩ := takeD_eq l i n r h
    exact ⟨by simp; omega, by simpa using h2⟩
theorem writeD_eq {α : Type} : ∀ (l : List α) (i : Nat) (r l' : List α), writeD l i r = some l' → i + r.length ≤ l.length ∧ l' = l.take i ++ r ++ l.drop (i + r.length)
  | l, 0, [], l', h => by cases l <;> simp [writeD] at h <;> simp [h]
  | [], 0, _ :: _, l', h => by simp [writeD] at h
  | a :: l, 0, b :: r, l', h => by
    cases hl : writeD l 0 r with
    | none => simp [writeD, hl] at h
    | some r' =>
      simp [writeD, hl] at h
      obtain ⟨h1, h2⟩ := writeD_eq l 0 r r' hl
      subst h h2
      simp at h1 ⊢; omega
  | [], i + 1, r, l', h => by cases r <;> simp [writeD] at h
  | a :: l, i + 1, r, l', h => by
    cases hl : writeD l i r with
    | none => cases r <;> simp [writeD, hl] at h
    | some r' =>
      have h' : l' = a :: r' := by cases r <;> simp [writeD, hl] at h <;> exact h.symm
      obtain ⟨h1, h2⟩ := writeD_eq l i r r' hl
      subst h' h2
      refine ⟨by simp; omega, ?_⟩
      rw [show i + 1 + r.length = (i + r.length) + 1 by omega]
      simp
end Go.Sx
