/-
  A small symbolic executor over the model (part A): symbolic values and memory, what they say of a real world, and how they are kept by a new block and by a store.
  No condition: these are definitions and laws that hold of every program.
-/
import Derived.Calls
import Derived.Laws.Sem
import Derived.Laws.World
import Derived.Laws.Cells
import Derived.Laws.Tables
import Derived.KernelRfl
namespace Go.Sx

/-- A symbolic value: an address names a block by a number of its own ('i'), which 'Env.s' turns into the real block. -/
inductive SV where
  | v (x : Value)
  | ptr (i off : Nat)
  | slc (i off len cap : Nat)
  | opq (i : Nat)
  | fn (f : FuncId) (caps : List SV)
  | agg (cs : List SV)
  | tup (vs : List SV)

structure Env where
  s : Nat → Nat
  o : Nat → Nat
  h : Nat → Option Addr × Nat × Nat

mutual
def SV.conc (ρ : Env) : SV → Value
  | .v x => x
  | .ptr i off => .pointer (some ⟨ρ.s i, ρ.o i + off, none⟩)
  | .slc i off len cap => .slice (some ⟨ρ.s i, ρ.o i + off, none⟩) len cap
  | .opq i => .slice (ρ.h i).1 (ρ.h i).2.1 (ρ.h i).2.2
  | .fn f caps => .func (.func f) #[] (SV.concs ρ caps).toArray
  | .agg cs => .agg (SV.concs ρ cs).toArray
  | .tup vs => .tuple (SV.concs ρ vs).toArray
def SV.concs (ρ : Env) : List SV → List Value
  | [] => []
  | a :: l => SV.conc ρ a :: SV.concs ρ l
end

mutual
/-- All block numbers in it are of the set S. -/
def SV.sc (S : Nat → Prop) : SV → Prop
  | .v _ => True
  | .ptr i _ => S i
  | .slc i _ _ _ => S i
  | .opq i => S i
  | .fn _ caps => SV.scs S caps
  | .agg cs => SV.scs S cs
  | .tup vs => SV.scs S vs
def SV.scs (S : Nat → Prop) : List SV → Prop
  | [] => True
  | a :: l => SV.sc S a ∧ SV.scs S l
end

theorem concs_map (ρ : Env) (l : List SV) : SV.concs ρ l = l.map (SV.conc ρ) := by
  induction l with
  | nil => rfl
  | cons a l ih => simp [SV.concs, ih]

theorem scs_iff (S : Nat → Prop) (l : List SV) : SV.scs S l ↔ ∀ a ∈ l, a.sc S := by
  induction l with
  | nil => simp [SV.scs]
  | cons a l ih => simp [SV.scs, ih]

/-- Two environments agree on S. -/
def Env.agree (S : Nat → Prop) (ρ ρ' : Env) : Prop := ∀ i, S i → ρ'.s i = ρ.s i ∧ ρ'.o i = ρ.o i ∧ ρ'.h i = ρ.h i

theorem Env.agree.refl (S : Nat → Prop) (ρ : Env) : Env.agree S ρ ρ := fun _ _ => ⟨rfl, rfl, rfl⟩
theorem Env.agree.trans {S S' : Nat → Prop} {a b c : Env} (h : Env.agree S a b) (h' : Env.agree S' b c) (hS : ∀ i, S i → S' i) : Env.agree S a c := fun i hi =>
  ⟨((h' i (hS i hi)).1).trans (h i hi).1, ((h' i (hS i hi)).2.1).trans (h i hi).2.1, ((h' i (hS i hi)).2.2).trans (h i hi).2.2⟩
theorem Env.agree.mono {S S' : Nat → Prop} {a b : Env} (h : Env.agree S' a b) (hS : ∀ i, S i → S' i) : Env.agree S a b := fun i hi => h i (hS i hi)

mutual
theorem conc_agree {S : Nat → Prop} {ρ ρ' : Env} (h : Env.agree S ρ ρ') : ∀ (a : SV), a.sc S → a.conc ρ' = a.conc ρ
  | .v _, _ => rfl
  | .ptr i _, hs => by simp only [SV.sc] at hs; simp [SV.conc, (h i hs).1, (h i hs).2.1]
  | .slc i _ _ _, hs => by simp only [SV.sc] at hs; simp [SV.conc, (h i hs).1, (h i hs).2.1]
  | .opq i, hs => by simp only [SV.sc] at hs; simp [SV.conc, (h i hs).2.2]
  | .fn _ caps, hs => by simp only [SV.conc, concs_agree h caps hs]
  | .agg cs, hs => by simp only [SV.conc, concs_agree h cs hs]
  | .tup vs, hs => by simp only [SV.conc, concs_agree h vs hs]
theorem concs_agree {S : Nat → Prop} {ρ ρ' : Env} (h : Env.agree S ρ ρ') : ∀ (l : List SV), SV.scs S l → SV.concs ρ' l = SV.concs ρ l
  | [], _ => rfl
  | a :: l, hs => by simp only [SV.concs, conc_agree h a hs.1, concs_agree h l hs.2]
end

mutual
theorem SV.sc_mono {S S' : Nat → Prop} (h : ∀ i, S i → S' i) : ∀ (a : SV), a.sc S → a.sc S'
  | .v _, _ => trivial
  | .ptr _ _, hs => h _ hs
  | .slc _ _ _ _, hs => h _ hs
  | .opq _, hs => h _ hs
  | .fn _ caps, hs => SV.scs_mono h caps hs
  | .agg cs, hs => SV.scs_mono h cs hs
  | .tup vs, hs => SV.scs_mono h vs hs
theorem SV.scs_mono {S S' : Nat → Prop} (h : ∀ i, S i → S' i) : ∀ (l : List SV), SV.scs S l → SV.scs S' l
  | [], _ => trivial
  | a :: l, hs => ⟨SV.sc_mono h a hs.1, SV.scs_mono h l hs.2⟩
end

/-- The cells that a value fills. -/
def SV.cells : SV → List SV
  | .agg cs => cs
  | .v (.agg cs) => cs.toList.map .v
  | x => [x]

theorem concs_v (ρ : Env) (l : List Value) : SV.concs ρ (l.map .v) = l := by
  induction l with
  | nil => rfl
  | cons a l ih => simp [SV.concs, SV.conc, ih]
theorem scs_v (S : Nat → Prop) (l : List Value) : SV.scs S (l.map .v) := by
  induction l with
  | nil => trivial
  | cons a l ih => exact ⟨trivial, ih⟩

theorem conc_cells (ρ : Env) (a : SV) : (a.conc ρ).cells = (SV.concs ρ a.cells).toArray := by
  cases a with
  | v x => cases x <;> first | (simp [SV.conc, SV.cells, SV.concs, Value.cells]; done) | (rename_i cs; simp [SV.conc, SV.cells, Value.cells, concs_v])
  | _ => simp [SV.conc, SV.cells, SV.concs, Value.cells]

theorem sc_cells {S : Nat → Prop} {a : SV} (h : a.sc S) : SV.scs S a.cells := by
  cases a with
  | v x => cases x <;> first | exact ⟨trivial, trivial⟩ | exact scs_v _ _
  | agg cs => exact h
  | _ => exact ⟨h, trivial⟩

/-- It fills one cell. -/
def SV.one : SV → Bool
  | .agg _ | .tup _ => false
  | .v x => x.oneCell'
  | _ => true

theorem one_conc {ρ : Env} {a : SV} (h : a.one = true) : (a.conc ρ).oneCell' = true := by
  cases a <;> simp_all [SV.one, SV.conc, Value.oneCell']

/-- A look in a list of numbered things: the first counts. -/
def look {α : Type} : List (Nat × α) → Nat → Option α
  | [], _ => none
  | (k, a) :: l, t => match Nat.beq k t with
    | true => some a
    | false => look l t

theorem look_cons {α : Type} (k : Nat) (a : α) (l : List (Nat × α)) (t : Nat) : look ((k, a) :: l) t = if k = t then some a else look l t := by
  by_cases h : k = t
  · subst h; simp [look]
  · have : Nat.beq k t = false := by
      cases hb : Nat.beq k t with
      | false => rfl
      | true => exact absurd (Nat.eq_of_beq_eq_true hb) h
    simp [look, this, h]

/-- A symbolic block. 'row': the array of a slice value 'opq i' of 'n' elements of 'e' cells each, whose capacity is not known; it may be nil where it is empty. 'win': cells of before the call that nobody writes to. -/
inductive SObj where
  | cells (cs : List SV) (t : TypeId)
  | row (e n : Nat) (xs : List SV) (t : TypeId)
  | obj (o : Obj)
  | win (vs : List Value)

def SObj.sc (S : Nat → Prop) : SObj → Prop
  | .cells cs _ => SV.scs S cs
  | .row _ _ xs _ => SV.scs S xs
  | .obj _ => True
  | .win _ => True

/-- The cells of a block, where they are told. -/
def SObj.list : SObj → Option (List SV)
  | .cells cs _ => some cs
  | .row _ _ xs _ => some xs
  | _ => none

def SObj.holds (w0 : World) (L : List (Nat × Nat)) (ρ : Env) (i : Nat) (w : World) : SObj → Prop
  | .cells cs t => ρ.o i = 0 ∧ w.heap[ρ.s i]? = some (.cells (SV.concs ρ cs).toArray t (0, 0))
  | .row e n xs t => ρ.o i = 0 ∧ xs.length = n * e ∧ ((ρ.h i = (none, 0, 0) ∧ n = 0) ∨
      ∃ cap sp, ρ.h i = (some ⟨ρ.s i, 0, none⟩, n, cap) ∧ (n * e + sp.length = cap * e ∧ cap < 2 ^ 63) ∧ w.heap[ρ.s i]? = some (.cells (SV.concs ρ xs ++ sp).toArray t (0, 0)))
  | .obj o => (∀ c t f, o ≠ .cells c t f) ∧ w.heap[ρ.s i]? = some o
  | .win vs => ρ.s i < w0.heap.size ∧ (∀ p ∈ L, p.2 ≠ ρ.s i) ∧ ∀ j x, vs[j]? = some x → w0.cell? ⟨ρ.s i, ρ.o i + j, none⟩ = some x

/-- It has a block. -/
def SObj.occ (ρ : Env) (i : Nat) : SObj → Prop
  | .row _ _ _ _ => (ρ.h i).1 ≠ none
  | .win _ => False
  | _ => True

theorem SObj.holds_lt {w0 : World} {L : List (Nat × Nat)} {ρ : Env} {i : Nat} {w : World} {o : SObj} (h : o.holds w0 L ρ i w) (ho : o.occ ρ i) : ρ.s i < w.heap.size := by
  have aux : ∀ {x : Obj}, w.heap[ρ.s i]? = some x → ρ.s i < w.heap.size := fun hx => (Array.getElem?_eq_some_iff.1 hx).1
  cases o with
  | cells cs t => exact aux h.2
  | obj o => exact aux h.2
  | win vs => exact ho.elim
  | row e n xs t =>
    obtain ⟨_, _, ⟨h1, _⟩ | ⟨cap, sp, _, _, h1⟩⟩ := h
    · simp [SObj.occ, h1] at ho
    · exact aux h1

theorem SObj.holds_agree {w0 : World} {L : List (Nat × Nat)} {S : Nat → Prop} {ρ ρ' : Env} {i : Nat} {w w' : World} {o : SObj} (ha : Env.agree S ρ ρ') (hi : S i) (hs : o.sc S)
    (hw : o.occ ρ i → w'.heap[ρ.s i]? = w.heap[ρ.s i]?) (h : o.holds w0 L ρ i w) : o.holds w0 L ρ' i w' := by
  obtain ⟨e1, e0, e2⟩ := ha i hi
  cases o with
  | cells cs t => simp only [SObj.holds] at *; rw [e1, e0, hw trivial, h.2, concs_agree ha cs hs]; exact ⟨h.1, rfl⟩
  | obj o => refine ⟨h.1, ?_⟩; rw [e1, hw trivial]; exact h.2
  | win vs => simp only [SObj.holds] at *; rw [e1, e0]; exact h
  | row e m xs t =>
    simp only [SObj.holds] at *
    refine ⟨by rw [e0]; exact h.1, h.2.1, ?_⟩
    rcases h.2.2 with ⟨h1, h2⟩ | ⟨cap, sp, h1, h2, h3⟩
    · exact .inl ⟨by rw [e2, h1], h2⟩
    · refine .inr ⟨cap, sp, by rw [e2, e1, h1], h2, ?_⟩
      rw [e1, hw (by simp [SObj.occ, h1]), concs_agree ha xs hs]; exact h3

theorem SObj.occ_agree {S : Nat → Prop} {ρ ρ' : Env} {i : Nat} {o : SObj} (ha : Env.agree S ρ ρ') (hi : S i) : o.occ ρ' i ↔ o.occ ρ i := by
  cases o <;> simp [SObj.occ, (ha i hi).2.2]

theorem SObj.sc_mono {S S' : Nat → Prop} (h : ∀ i, S i → S' i) {o : SObj} (ho : o.sc S) : o.sc S' := by
  cases o with
  | cells cs t => exact SV.scs_mono h cs ho
  | row e k xs t => exact SV.scs_mono h xs ho
  | obj o => trivial
  | win vs => trivial

abbrev Mem := Nat → Option SObj

/-- What the symbolic memory says of the world 'w', where the call began in 'w0'; 'L': the blocks of before that it may write to (number, real block). -/
structure WI (w0 : World) (L : List (Nat × Nat)) (ρ : Env) (M : Mem) (S : Nat → Prop) (w : World) : Prop where
  mem : ∀ i o, M i = some o → S i ∧ o.sc S ∧ o.holds w0 L ρ i w
  dist : ∀ i j o o', M i = some o → M j = some o' → i ≠ j → o.occ ρ i → o'.occ ρ j → ρ.s i ≠ ρ.s j
  new : ∀ i o, M i = some o → o.occ ρ i → (∃ p ∈ L, p.2 = ρ.s i) ∨ w0.heap.size ≤ ρ.s i
  lid : ∀ p ∈ L, S p.1 ∧ ρ.s p.1 = p.2
  keep : ∀ k, k < w0.heap.size → (∀ p ∈ L, p.2 ≠ k) → w.heap[k]? = w0.heap[k]?
  size : w0.heap.size ≤ w.heap.size
  os : w.os = w0.os
  tape : w.tape = w0.tape
  output : w.output = w0.output

def upd {α : Type} (M : Nat → Option α) (i : Nat) (o : α) : Nat → Option α := fun j => if i = j then some o else M j
theorem upd_same {α : Type} (M : Nat → Option α) (i : Nat) (o : α) : upd M i o i = some o := by simp [upd]
theorem upd_other {α : Type} (M : Nat → Option α) {i j : Nat} (o : α) (h : i ≠ j) : upd M i o j = M j := by simp [upd, h]
theorem look_upd {α : Type} (k : Nat) (a : α) (l : List (Nat × α)) : look ((k, a) :: l) = upd (look l) k a := by
  funext t; rw [look_cons]; rfl

def Env.bind (ρ : Env) (i b : Nat) : Env := { ρ with s := fun j => if j = i then b else ρ.s j, o := fun j => if j = i then 0 else ρ.o j }
theorem Env.bind_agree (ρ : Env) {i : Nat} (b : Nat) {S : Nat → Prop} (hi : ¬ S i) : Env.agree S ρ (ρ.bind i b) := fun j hj => by
  have : j ≠ i := fun e => hi (e ▸ hj)
  exact ⟨by simp [Env.bind, this], by simp [Env.bind, this], rfl⟩

/-- A world that goes on: blocks of before stay, streams stay. -/
structure Ext (w w' : World) : Prop where
  keep : ∀ k, k < w.heap.size → w'.heap[k]? = w.heap[k]?
  size : w.heap.size ≤ w'.heap.size
  os : w'.os = w.os
  tape : w'.tape = w.tape
  output : w'.output = w.output

theorem Ext.refl (w : World) : Ext w w := ⟨fun _ _ => rfl, Nat.le_refl _, rfl, rfl, rfl⟩
theorem Ext.trans {a b c : World} (h : Ext a b) (k : Ext b c) : Ext a c :=
  ⟨fun i hi => (k.keep i (by have := h.size; omega)).trans (h.keep i hi), Nat.le_trans h.size k.size, k.os.trans h.os, k.tape.trans h.tape, k.output.trans h.output⟩
theorem Ext.alloc (w : World) (o : Obj) : Ext w (w.alloc o) :=
  ⟨fun k hk => by show (w.heap.push o)[k]? = _; rw [Array.getElem?_push, if_neg (by omega)], by simp, rfl, rfl, rfl⟩
theorem Ext.drew (w : World) : Ext w w.drew := ⟨fun _ _ => rfl, Nat.le_refl _, rfl, rfl, rfl⟩

section
variable {w0 w w' : World} {L : List (Nat × Nat)} {ρ : Env} {M : Mem} {S : Nat → Prop}

/-- Nothing of what is told has turned: a call that only makes blocks of its own, a draw. -/
theorem WI.ext (h : WI w0 L ρ M S w) (e : Ext w w') : WI w0 L ρ M S w' where
  mem i o hi := by
    obtain ⟨h1, h2, h3⟩ := h.mem i o hi
    exact ⟨h1, h2, SObj.holds_agree (Env.agree.refl S ρ) h1 h2 (fun ho => e.keep _ (SObj.holds_lt h3 ho)) h3⟩
  dist := h.dist
  new := h.new
  lid := h.lid
  keep k hk hL := (e.keep k (by have := h.size; omega)).trans (h.keep k hk hL)
  size := Nat.le_trans h.size e.size
  os := e.os.trans h.os
  tape := e.tape.trans h.tape
  output := e.output.trans h.output

/-- A further number, not used yet. -/
theorem WI.mono (h : WI w0 L ρ M S w) {S' : Nat → Prop} (hm : ∀ i, S i → S' i) : WI w0 L ρ M S' w where
  mem i o hi := by
    obtain ⟨h1, h2, h3⟩ := h.mem i o hi
    exact ⟨hm _ h1, SObj.sc_mono hm h2, h3⟩
  dist := h.dist
  new := h.new
  lid p hp := ⟨hm _ (h.lid p hp).1, (h.lid p hp).2⟩
  keep := h.keep
  size := h.size
  os := h.os
  tape := h.tape
  output := h.output

/-- A new block, of the number 'i'. -/
theorem WI.alloc (h : WI w0 L ρ M S w) {i : Nat} (hi : ¬ S i) {o : SObj} {x : Obj} (ho : o.sc S)
    (hh : ∀ ρ' w', Env.agree S ρ ρ' → ρ'.s i = w.heap.size → ρ'.o i = 0 → w'.heap[w.heap.size]? = some x → o.holds w0 L ρ' i w') :
    WI w0 L (ρ.bind i w.heap.size) (upd M i o) (fun j => S j ∨ j = i) (w.alloc x) ∧ Env.agree S ρ (ρ.bind i w.heap.size) := by
  have ha : Env.agree S ρ (ρ.bind i w.heap.size) := Env.bind_agree ρ w.heap.size hi
  have up : ∀ j, S j → S j ∨ j = i := fun _ => .inl
  have hs : (ρ.bind i w.heap.size).s i = w.heap.size := by simp [Env.bind]
  have old : ∀ k, k < w.heap.size → (w.alloc x).heap[k]? = w.heap[k]? := (Ext.alloc w x).keep
  refine ⟨⟨?_, ?_, ?_, ?_, ?_, ?_, h.os, h.tape, h.output⟩, ha⟩
  · intro j o' hj
    by_cases e : i = j
    · subst e
      rw [upd_same] at hj
      obtain rfl := Option.some.inj hj
      exact ⟨.inr rfl, SObj.sc_mono up ho, hh _ _ ha hs (by simp [Env.bind]) (by show (w.heap.push x)[w.heap.size]? = _; simp)⟩
    · rw [upd_other _ _ e] at hj
      obtain ⟨h1, h2, h3⟩ := h.mem j o' hj
      exact ⟨.inl h1, SObj.sc_mono up h2, SObj.holds_agree ha h1 h2 (fun hc => old _ (SObj.holds_lt h3 hc)) h3⟩
  · intro j k oj ok hj hk hne cj ck
    by_cases e : i = j
    · subst e
      rw [upd_other _ _ hne] at hk
      obtain ⟨h1, h2, h3⟩ := h.mem k ok hk
      have := SObj.holds_lt h3 ((SObj.occ_agree ha h1).1 ck)
      rw [hs, (ha k h1).1]; omega
    · rw [upd_other _ _ e] at hj
      obtain ⟨h1, h2, h3⟩ := h.mem j oj hj
      have l1 := SObj.holds_lt h3 ((SObj.occ_agree ha h1).1 cj)
      by_cases e' : i = k
      · subst e'
        rw [hs, (ha j h1).1]; omega
      · rw [upd_other _ _ e'] at hk
        obtain ⟨g1, g2, g3⟩ := h.mem k ok hk
        rw [(ha j h1).1, (ha k g1).1]
        exact h.dist j k oj ok hj hk hne ((SObj.occ_agree ha h1).1 cj) ((SObj.occ_agree ha g1).1 ck)
  · intro j oj hj cj
    by_cases e : i = j
    · subst e; right; rw [hs]; exact h.size
    · rw [upd_other _ _ e] at hj
      obtain ⟨h1, h2, h3⟩ := h.mem j oj hj
      rw [(ha j h1).1]
      exact h.new j oj hj ((SObj.occ_agree ha h1).1 cj)
  · intro p hp
    obtain ⟨h1, h2⟩ := h.lid p hp
    exact ⟨.inl h1, by rw [(ha p.1 h1).1, h2]⟩
  · intro k hk hL
    rw [old k (by have := h.size; omega)]
    exact h.keep k hk hL
  · simp; have := h.size; omega

/-- A block that is told is written over. -/
theorem WI.write (h : WI w0 L ρ M S w) {i : Nat} {o o' : SObj} {x : Obj} (hi : M i = some o) (hocc : o.occ ρ i) (ho : o'.sc S)
    {w' : World} (hw : w'.heap[ρ.s i]? = some x) (hx : w'.heap[ρ.s i]? = some x → o'.holds w0 L ρ i w') (hother : ∀ k, k ≠ ρ.s i → w'.heap[k]? = w.heap[k]?) (hsize : w'.heap.size = w.heap.size)
    (hos : w'.os = w.os) (htape : w'.tape = w.tape) (hout : w'.output = w.output) :
    WI w0 L ρ (upd M i o') S w' := by
  obtain ⟨hilt, _, _⟩ := h.mem i o hi
  refine ⟨?_, ?_, ?_, h.lid, ?_, by rw [hsize]; exact h.size, hos.trans h.os, htape.trans h.tape, hout.trans h.output⟩
  · intro j oj hj
    by_cases e : i = j
    · subst e
      rw [upd_same] at hj
      obtain rfl := Option.some.inj hj
      exact ⟨hilt, ho, hx hw⟩
    · rw [upd_other _ _ e] at hj
      obtain ⟨h1, h2, h3⟩ := h.mem j oj hj
      refine ⟨h1, h2, SObj.holds_agree (Env.agree.refl S ρ) h1 h2 (fun hc => hother _ ?_) h3⟩
      exact fun he => h.dist i j o oj hi hj e hocc hc he.symm
  · intro j k oj ok hj hk hne cj ck
    by_cases e : i = j
    · subst e
      rw [upd_other _ _ hne] at hk
      exact h.dist i k o ok hi hk hne hocc ck
    · rw [upd_other _ _ e] at hj
      by_cases e' : i = k
      · subst e'
        exact h.dist j i oj o hj hi hne cj hocc
      · rw [upd_other _ _ e'] at hk
        exact h.dist j k oj ok hj hk hne cj ck
  · intro j oj hj cj
    by_cases e : i = j
    · subst e; exact h.new i o hi hocc
    · rw [upd_other _ _ e] at hj
      exact h.new j oj hj cj
  · intro k hk hL
    rw [hother k, h.keep k hk hL]
    intro e
    rcases h.new i o hi hocc with ⟨p, hp, hpe⟩ | hle
    · exact hL p hp (hpe.trans e.symm)
    · omega
end
end Go.Sx
