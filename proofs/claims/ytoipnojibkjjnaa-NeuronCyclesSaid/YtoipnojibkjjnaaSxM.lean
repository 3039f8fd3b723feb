/-
  A small symbolic executor over the model (part M): ranges over functions: the iterator's call of a round, the loop's beginning and end, the return of a function that had such a loop.
  No condition: these are definitions and laws that hold of every program.
-/
import Derived.Test.YtoipnojibkjjnaaSxL
namespace Go.Sx

/-- The temporaries of a round that is called with these arguments. -/
def roundTmps (r : Loop) (args : Array Value) : Array Value := (r.params.zip args).foldl (fun tmps (t, a) => tmps.setIfInBounds t a) r.tmps
/-- A call of 'yield' of the loop l gives an answer of which Q holds. -/
def Yields (P : Program) (l : Nat) (args : Array Value) (w : World) (Q : Bool → World → Prop) : Prop :=
  ∃ r, w.heap[l]? = some (.loop r) ∧ args.size = r.params.size ∧
    TW P r.fn (some l) { tmps := roundTmps r args, defers := [] } [.code r.assign, .beginRound, .code r.body] w (fun e w' => ∃ b, e = .returned (.bool b) ∧ Q b w')
theorem Yields.mono {P : Program} {l : Nat} {args : Array Value} {w : World} {Q Q' : Bool → World → Prop} (h : Yields P l args w Q) (hq : ∀ b w', Q b w' → Q' b w') : Yields P l args w Q' := by
  obtain ⟨r, h1, h2, h3⟩ := h
  exact ⟨r, h1, h2, h3.mono fun e w' ⟨b, he, hb⟩ => ⟨b, he, hq _ _ hb⟩⟩

theorem run_callYield {P : Program} {a : Act} {w : World} {o : Oper} {f : Operand} {args : Array Operand} {ts : Array TypeId} {l : Nat} {r : Loop} (hf : a.eval f = .func (.yield l) #[] #[]) (ho : o.op = .call { callee := .value f, args := args, argTypes := ts })
    (hl : w.heap[l]? = some (.loop r)) (hs : args.size = r.params.size) : (execOp a.eval o).run P w = .ok (.round l r.fn (roundTmps r (args.map a.eval)) r.assign r.body) w := by
  simp [execOp, ho, resolve, hf, Deferred.ofValue, invoke, Instr.yield, run_getLoop hl, hs, roundTmps]

theorem TW.opY {P : Program} {f : FuncId} {rd : Option Nat} {a : Act} {ops : Array Oper} {i : Nat} {rest : List Nat} {k : List Item} {w : World} {R : Ending → World → Prop} {o : Oper} {g : Operand} {args : Array Operand} {ts : Array TypeId} {l : Nat} (ho : ops[i]? = some o)
    (hw : Region.wanted o (yielded ops a.tmps) = true) (hop : o.op = .call { callee := .value g, args := args, argTypes := ts }) (hf : a.eval g = .func (.yield l) #[] #[])
    (h : Yields P l (args.map a.eval) w fun b w' => TW P f rd (a.put o.dst (.bool b)) (.inRegion ops rest :: k) w' R) :
    TW P f rd a (.inRegion ops (i :: rest) :: k) w R := by
  intro cs hcs
  obtain ⟨r, hl, hs, hT⟩ := h
  have hr := run_callYield (P := P) (w := w) hf hop hl (by simpa using hs)
  have hg := fstep_op (P := P) (f := f) (rd := rd) (a := a) (k := k) (cs := cs) (w := w) (rest := rest) ho hw (fun c hc => by rw [hop] at hc; cases hc)
  have hfin : ∀ v, (fat f rd a (.inRegion ops (i :: rest) :: k)).finish v = fat f rd (a.put o.dst v) (.inRegion ops rest :: k) := by
    intro v; rw [fat_finish, ho]; rfl
  obtain ⟨m, ⟨b, c, cs', w', hcc, ⟨b', hb, hQ⟩, rfl⟩, hsteps⟩ := hT (fat f rd a (.inRegion ops (i :: rest) :: k) :: cs) (by simp)
  obtain ⟨rfl, rfl⟩ := List.cons.inj hcc
  obtain rfl : b = b' := by injection hb with hb; injection hb
  obtain ⟨m, h1, h2⟩ := hQ cs hcs
  rw [hfin] at hsteps
  refine ⟨m, h1, .head (step_lone_go ?_) (Steps.trans hsteps h2)⟩
  rw [hg]
  simp [stepG.apply, hr, fat, Frame.round]

/-- The world when a range over a function has begun. -/
def loopOf (a : Act) (f : FuncId) (params : Array Tmp) (assign body : Code) (d : Nat) : Loop := { state := .ready, pending := none, fn := f, tmps := a.tmps, params, assign, body, defers := d }
def World.loop (w : World) (a : Act) (f : FuncId) (params : Array Tmp) (assign body : Code) : World := (w.alloc (.deferred (some []))).alloc (.loop (loopOf a f params assign body w.heap.size))
def marked (w : World) (a : Act) : Act := { a with defers := { target := .collected w.heap.size, args := #[] } :: a.defers }

theorem TW.rangeFunc {P : Program} {f : FuncId} {a : Act} {k : List Item} {w : World} {R : Ending → World → Prop} {x : Operand} {params : Array Tmp} {assign body : Code} {g : FuncId} {caps : Array Value} (hg : Enters P g) (hx : a.eval x = .func (.func g) #[] caps)
    (h : Calls P g (#[.func (.yield (w.heap.size + 1)) #[] #[]] ++ caps) (World.loop w a f params assign body) fun e w' => ∃ v, e = .returned v ∧ TW P f none (marked w a) (.endRangeFunc (w.heap.size + 1) :: k) w' R) :
    TW P f none a (.code (.rangeFunc x params assign body) :: k) w R := by
  intro cs hcs
  have henter : (Instr.enterLoop f a.tmps params assign body none).run P w = .ok (w.heap.size + 1, [{ target := .collected w.heap.size, args := #[] }]) (World.loop w a f params assign body) := by
    simp [Instr.enterLoop, newObj, Sem.run, World.loop, loopOf]
  obtain ⟨e, w'', fr, ⟨v, rfl, hR⟩, hsteps, _, hleave⟩ := h (fat f none (marked w a) (.inRangeFunc (w.heap.size + 1) :: k) :: cs)
  have hstep : step P (lone (fat f none a (.code (.rangeFunc x params assign body) :: k)) cs w) = .next (lone (Frame.enter P g (#[.func (.yield (w.heap.size + 1)) #[] #[]] ++ caps) .normal) (fat f none (marked w a) (.inRangeFunc (w.heap.size + 1) :: k) :: cs) (World.loop w a f params assign body)) := by
    refine step_lone_go ?_
    have hrun : (do let d ← resolve (fat f none (marked w a) (.inRangeFunc (w.heap.size + 1) :: k)).eval { callee := .value x, args := #[.const (.func (.yield (w.heap.size + 1)) #[] #[])], argTypes := #[] } 0; invoke d.target d.args).run P (World.loop w a f params assign body) =
        .ok (.enter g (#[.func (.yield (w.heap.size + 1)) #[] #[]] ++ caps)) (World.loop w a f params assign body) := by
      have hx' : (fat f none (marked w a) (.inRangeFunc (w.heap.size + 1) :: k)).eval x = .func (.func g) #[] caps := by rw [fat_eval]; exact hx
      have hy : (fat f none (marked w a) (.inRangeFunc (w.heap.size + 1) :: k)).eval (.const (.func (.yield (w.heap.size + 1)) #[] #[])) = .func (.yield (w.heap.size + 1)) #[] #[] := rfl
      simp [resolve, hx', hy, Deferred.ofValue, invoke, run_callFunc hg]
    simp only [fat, marked] at hrun
    simp only [stepG, stepG.exec, fat, Sem.runT_eq, henter, marked]
    simp [stepG.apply, hrun]
  obtain ⟨m, h1, h2⟩ := hR cs hcs
  refine ⟨m, h1, .head hstep (Steps.trans hsteps (.head ?_ h2))⟩
  exact step_leave_returned (c := fat f none (marked w a) (.inRangeFunc (w.heap.size + 1) :: k)) hleave

theorem run_endLoop {P : Program} {w : World} {l : Nat} {r : Loop} (h : w.heap[l]? = some (.loop r)) (hb : r.state ≠ .busy) : (Instr.endLoop l).run P w = .ok r.pending (World.putO w l (.loop { r with state := .exhausted })) := by
  simp [Instr.endLoop, run_getLoop h, run_setObj h (fun _ _ _ => by simp), hb]
theorem TW.endLoop {P : Program} {f : FuncId} {rd : Option Nat} {a : Act} {k : List Item} {w : World} {R : Ending → World → Prop} {l : Nat} {r : Loop} (h : w.heap[l]? = some (.loop r)) (hb : r.state ≠ .busy) (hp : r.pending = none)
    (hk : TW P f rd a k (World.putO w l (.loop { r with state := .exhausted })) R) : TW P f rd a (.endRangeFunc l :: k) w R := by
  refine TW.next (fun cs => step_lone_go ?_) hk
  have hrun := run_endLoop (P := P) h hb
  rw [hp] at hrun
  simp [stepG, stepG.exec, fat, hrun, hp]

theorem run_takeDeferred {P : Program} {w : World} {d : Nat} {ds : List Deferred} (h : w.heap[d]? = some (.deferred (some ds))) : (Instr.takeDeferred d).run P w = .ok ds (World.putO w d (.deferred none)) := by
  have hg : (getObj d).run P w = .ok (.deferred (some ds)) w := by simp [getObj, Sem.run, h]
  simp [Instr.takeDeferred, hg, run_setObj h (fun _ _ _ => by simp)]
/-- A return of a function that had one range over a function, without deferred calls in its rounds. -/
theorem TW.retD {P : Program} {f : FuncId} {fn : Func} {a : Act} {todo : List Item} {w : World} {R : Ending → World → Prop} {v : Value} {d : Nat} (ht : todo = [] ∨ ∃ k, todo = .code .ret :: k) (hf : P.funcs[f]? = some fn) (hd : a.defers = [{ target := .collected d, args := #[] }]) (hw : w.heap[d]? = some (.deferred (some [])))
    (hr : (results fn a.tmps).run P (World.putO w d (.deferred none)) = .ok v (World.putO w d (.deferred none))) (h : R (.returned v) (World.putO w d (.deferred none))) : TW P f none a todo w R := by
  intro cs _
  have h1 : step P (lone (fat f none a todo) cs w) = .next (lone { fat f none a todo with mode := .returning } cs w) := by
    rcases ht with rfl | ⟨k, rfl⟩ <;> exact step_lone_go (by simp [stepG, stepG.exec, fat])
  have h2 : step P (lone { fat f none a todo with mode := .returning } cs w) = .next (lone { fat f none a todo with mode := .returning, defers := [] } cs (World.putO w d (.deferred none))) :=
    step_lone_go (by simp [stepG, unwind, fat, hd, run_takeDeferred hw])
  exact ⟨_, ⟨v, _, _, h, rfl, rfl, rfl, rfl, rfl, fn, hf, hr⟩, .head h1 (.one h2)⟩
end Go.Sx
