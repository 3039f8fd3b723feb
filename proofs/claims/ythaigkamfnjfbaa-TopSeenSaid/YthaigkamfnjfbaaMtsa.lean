/-
  Laws of the executor, and walks of functions (part 1). The conditions stand with each law.
-/
import Derived.Calls
import Derived.Laws.Sem
import Derived.Laws.World
import Derived.Laws.Cells
import Derived.Laws.Tables
import Derived.KernelRfl
namespace Go.Sx
/-- A symbolic value: an address names a block by a number of its own ('i'), which 'Env.s' turns into the real block. -/
inductive SV where
  | v (x : Value)
  | ptr (i off : Nat)
  | slc (i off len cap : Nat)
  | opq (i : Nat)
  | mp (i : Nat)
  | fn (f : FuncId) (caps : List SV)
  | agg (cs : List SV)
  | tup (vs : List SV)
structure Env where
  s : Nat → Nat
  o : Nat → Nat
  h : Nat → Option Addr × Nat × Nat
mutual
def SV.conc (ρ : Env) : SV → Value
  | .v x => x
  | .ptr i off => .pointer (some ⟨ρ.s i, ρ.o i + off, none⟩)
  | .slc i off len cap => .slice (some ⟨ρ.s i, ρ.o i + off, none⟩) len cap
  | .opq i => .slice (ρ.h i).1 (ρ.h i).2.1 (ρ.h i).2.2
  | .mp i => .map (if ρ.o i = 0 then some (ρ.s i) else none)
  | .fn f caps => .func (.func f) #[] (SV.concs ρ caps).toArray
  | .agg cs => .agg (SV.concs ρ cs).toArray
  | .tup vs => .tuple (SV.concs ρ vs).toArray
def SV.concs (ρ : Env) : List SV → List Value
  | [] => []
  | a :: l => SV.conc ρ a :: SV.concs ρ l
end
mutual
/-- All block numbers in it are of the set S. -/
def SV.sc (S : Nat → Prop) : SV → Prop
  | .v _ => True
  | .ptr i _ => S i
  | .slc i _ _ _ => S i
  | .opq i => S i
  | .mp i => S i
  | .fn _ caps => SV.scs S caps
  | .agg cs => SV.scs S cs
  | .tup vs => SV.scs S vs
def SV.scs (S : Nat → Prop) : List SV → Prop
  | [] => True
  | a :: l => SV.sc S a ∧ SV.scs S l
end
theorem concs_map (ρ : Env) (l : List SV) : SV.concs ρ l = l.map (SV.conc ρ) := by
  induction l with
  | nil => rfl
  | cons a l ih => simp [SV.concs, ih]
theorem scs_iff (S : Nat → Prop) (l : List SV) : SV.scs S l ↔ ∀ a ∈ l, a.sc S := by
  induction l with
  | nil => simp [SV.scs]
  | cons a l ih => simp [SV.scs, ih]
/-- Two environments agree on S. -/
def Env.agree (S : Nat → Prop) (ρ ρ' : Env) : Prop := ∀ i, S i → ρ'.s i = ρ.s i ∧ ρ'.o i = ρ.o i ∧ ρ'.h i = ρ.h i
theorem Env.agree.refl (S : Nat → Prop) (ρ : Env) : Env.agree S ρ ρ := fun _ _ => ⟨rfl, rfl, rfl⟩
theorem Env.agree.trans {S S' : Nat → Prop} {a b c : Env} (h : Env.agree S a b) (h' : Env.agree S' b c) (hS : ∀ i, S i → S' i) : Env.agree S a c := fun i hi =>
  ⟨((h' i (hS i hi)).1).trans (h i hi).1, ((h' i (hS i hi)).2.1).trans (h i hi).2.1, ((h' i (hS i hi)).2.2).trans (h i hi).2.2⟩
theorem Env.agree.mono {S S' : Nat → Prop} {a b : Env} (h : Env.agree S' a b) (hS : ∀ i, S i → S' i) : Env.agree S a b := fun i hi => h i (hS i hi)
mutual
theorem conc_agree {S : Nat → Prop} {ρ ρ' : Env} (h : Env.agree S ρ ρ') : ∀ (a : SV), a.sc S → a.conc ρ' = a.conc ρ
  | .v _, _ => rfl
  | .ptr i _, hs => by simp only [SV.sc] at hs; simp [SV.conc, (h i hs).1, (h i hs).2.1]
  | .slc i _ _ _, hs => by simp only [SV.sc] at hs; simp [SV.conc, (h i hs).1, (h i hs).2.1]
  | .opq i, hs => by simp only [SV.sc] at hs; simp [SV.conc, (h i hs).2.2]
  | .mp i, hs => by simp only [SV.sc] at hs; simp only [SV.conc, (h i hs).1, (h i hs).2.1]
  | .fn _ caps, hs => by simp only [SV.conc, concs_agree h caps hs]
  | .agg cs, hs => by simp only [SV.conc, concs_agree h cs hs]
  | .tup vs, hs => by simp only [SV.conc, concs_agree h vs hs]
theorem concs_agree {S : Nat → Prop} {ρ ρ' : Env} (h : Env.agree S ρ ρ') : ∀ (l : List SV), SV.scs S l → SV.concs ρ' l = SV.concs ρ l
  | [], _ => rfl
  | a :: l, hs => by simp only [SV.concs, conc_agree h a hs.1, concs_agree h l hs.2]
end
mutual
theorem SV.sc_mono {S S' : Nat → Prop} (h : ∀ i, S i → S' i) : ∀ (a : SV), a.sc S → a.sc S'
  | .v _, _ => trivial
  | .ptr _ _, hs => h _ hs
  | .slc _ _ _ _, hs => h _ hs
  | .opq _, hs => h _ hs
  | .mp _, hs => h _ hs
  | .fn _ caps, hs => SV.scs_mono h caps hs
  | .agg cs, hs => SV.scs_mono h cs hs
  | .tup vs, hs => SV.scs_mono h vs hs
theorem SV.scs_mono {S S' : Nat → Prop} (h : ∀ i, S i → S' i) : ∀ (l : List SV), SV.scs S l → SV.scs S' l
  | [], _ => trivial
  | a :: l, hs => ⟨SV.sc_mono h a hs.1, SV.scs_mono h l hs.2⟩
end
/-- The cells that a value fills. -/
def SV.cells : SV → List SV
  | .agg cs => cs
  | .v (.agg cs) => cs.toList.map .v
  | x => [x]
theorem concs_v (ρ : Env) (l : List Value) : SV.concs ρ (l.map .v) = l := by
  induction l with
  | nil => rfl
  | cons a l ih => simp [SV.concs, SV.conc, ih]
theorem scs_v (S : Nat → Prop) (l : List Value) : SV.scs S (l.map .v) := by
  induction l with
  | nil => trivial
  | cons a l ih => exact ⟨trivial, ih⟩
theorem conc_cells (ρ : Env) (a : SV) : (a.conc ρ).cells = (SV.concs ρ a.cells).toArray := by
  cases a with
  | v x => cases x <;> first | (simp [SV.conc, SV.cells, SV.concs, Value.cells]; done) | (rename_i cs; simp [SV.conc, SV.cells, Value.cells, concs_v])
  | _ => simp [SV.conc, SV.cells, SV.concs, Value.cells]
theorem sc_cells {S : Nat → Prop} {a : SV} (h : a.sc S) : SV.scs S a.cells := by
  cases a with
  | v x => cases x <;> first | exact ⟨trivial, trivial⟩ | exact scs_v _ _
  | agg cs => exact h
  | _ => exact ⟨h, trivial⟩
/-- It fills one cell. -/
def SV.one : SV → Bool
  | .agg _ | .tup _ => false
  | .v x => x.oneCell'
  | _ => true
theorem one_conc {ρ : Env} {a : SV} (h : a.one = true) : (a.conc ρ).oneCell' = true := by
  cases a <;> simp_all [SV.one, SV.conc, Value.oneCell']
/-- A look in a list of numbered things: the first counts. -/
def look {α : Type} : List (Nat × α) → Nat → Option α
  | [], _ => none
  | (k, a) :: l, t => match Nat.beq k t with
    | true => some a
    | false => look l t
theorem look_cons {α : Type} (k : Nat) (a : α) (l : List (Nat × α)) (t : Nat) : look ((k, a) :: l) t = if k = t then some a else look l t := by
  by_cases h : k = t
  · subst h; simp [look]
  · have : Nat.beq k t = false := by
      cases hb : Nat.beq k t with
      | false => rfl
      | true => exact absurd (Nat.eq_of_beq_eq_true hb) h
    simp [look, this, h]
/-- A key of a map: an integer, or a pair of them. -/
inductive Key where
  | i (k : Int)
  | p (a b : Int)
deriving DecidableEq
def Key.val : Key → Value
  | .i k => .int .i64 k
  | .p a b => .agg #[.int .i64 a, .int .i64 b]
def Key.pair : Key → Bool
  | .i _ => false
  | .p _ _ => true
def kentF : List (Key × Value) → Nat → List MapEntry
  | [], _ => []
  | (k, v) :: l, i => { key := k.val, val := v, born := i } :: kentF l (i + 1)
def kents (l : List (Key × Value)) : Array MapEntry := (kentF l 0).toArray
/-- A map with these entries, in the order in which they were made. -/
def kobj (l : List (Key × Value)) : Obj := .map (kents l) l.length
def kget : List (Key × Value) → Key → Option Value
  | [], _ => none
  | (a, v) :: l, k => if k = a then some v else kget l k
/-- A slice value whose elements' cells are these, in a block of A. -/
def RowIn (w0 : World) (A : Nat → Prop) (v : Value) (e n : Nat) (xs : List Value) : Prop :=
  xs.length = n * e ∧ ∃ p c, v = .slice p n c ∧ n ≤ c ∧ (n = 0 ∨ ∃ b off, p = some ⟨b, off, none⟩ ∧ A b ∧ ∀ j x, xs[j]? = some x → w0.cell? ⟨b, off + j, none⟩ = some x)
/-- A map, in a block of A, from integers to such slices. -/
def SwinAt (w0 : World) (A : Nat → Prop) (s e : Nat) (n : Int → Nat) (f : Int → List Value) : Prop :=
  A s ∧ ∃ m : List (Key × Value), w0.heap[s]? = some (kobj m) ∧ (∀ x ∈ m, x.1.pair = false) ∧ ∀ k, RowIn w0 A ((kget m (.i k)).getD (.slice none 0 0)) e (n k) (f k)
theorem RowIn.mono {w w' : World} {A A' : Nat → Prop} {v : Value} {e n : Nat} {xs : List Value} (hA : ∀ b, A b → A' b ∧ w'.heap[b]? = w.heap[b]?) (h : RowIn w A v e n xs) : RowIn w' A' v e n xs := by
  obtain ⟨h1, p, c, h2, h3, h4⟩ := h
  refine ⟨h1, p, c, h2, h3, h4.imp id fun ⟨b, off, h5, h6, h7⟩ => ⟨b, off, h5, (hA b h6).1, fun j x hj => ?_⟩⟩
  have := h7 j x hj
  simp only [World.cell?] at this ⊢
  rw [(hA b h6).2]; exact this
theorem SwinAt.mono {w w' : World} {A A' : Nat → Prop} {s e : Nat} {n : Int → Nat} {f : Int → List Value} (hA : ∀ b, A b → A' b ∧ w'.heap[b]? = w.heap[b]?) (h : SwinAt w A s e n f) : SwinAt w' A' s e n f := by
  obtain ⟨h1, m, h2, h3, h4⟩ := h
  exact ⟨(hA s h1).1, m, by rw [(hA s h1).2]; exact h2, h3, fun k => (h4 k).mono hA⟩
/-- A symbolic block. 'kmap': a map ('pk': its keys are pairs; 'nn': it is not nil). 'kwin': a map of before the call that nobody writes to. 'pin': what the environment is at some numbers. 'swin': a map of before the call, from integers to slices, that nobody writes to. 'row': the array of a slice value 'opq i' of 'n' elements of 'e' cells each, whose capacity is not known; it may be nil where it is empty. 'rwin': the array of a slice value 'opq i' of 'n' elements of 'e' cells each, of before the call, that nobody writes to; it may be nil where it is empty. 'mid': some cells in the middle of a block. 'win': cells of before the call that nobody writes to. -/
inductive SObj where
  | cells (cs : List SV) (t : TypeId)
  | row (e n : Nat) (xs : List SV) (t : TypeId)
  | obj (o : Obj)
  | win (vs : List Value)
  | rwin (e n : Nat) (vs : List Value)
  | mid (pre post : List Value) (cs : List SV) (t : TypeId)
  | kmap (pk nn : Bool) (l : List (Key × Value))
  | kwin (pk : Bool) (l : List (Key × Value))
  | pin (l : List (Nat × Nat × Nat × (Option Addr × Nat × Nat)))
  | swin (e : Nat) (n : Int → Nat) (f : Int → List Value)
def SObj.sc (S : Nat → Prop) : SObj → Prop
  | .cells cs _ => SV.scs S cs
  | .row _ _ xs _ => SV.scs S xs
  | .obj _ => True
  | .win _ => True
  | .rwin _ _ _ => True
  | .mid _ _ cs _ => SV.scs S cs
  | .kmap _ _ _ => True
  | .kwin _ _ => True
  | .pin l => ∀ p ∈ l, S p.1
  | .swin _ _ _ => True
/-- The cells of a block, where they are told. -/
def SObj.list : SObj → Option (List SV)
  | .cells cs _ => some cs
  | .row _ _ xs _ => some xs
  | .mid _ _ cs _ => some cs
  | _ => none
def SObj.holds (w0 : World) (L : List (Nat × Nat)) (ρ : Env) (i : Nat) (w : World) : SObj → Prop
  | .cells cs t => ρ.o i = 0 ∧ w.heap[ρ.s i]? = some (.cells (SV.concs ρ cs).toArray t (0, 0))
  | .row e n xs t => ρ.o i = 0 ∧ xs.length = n * e ∧ ((ρ.h i = (none, 0, 0) ∧ n = 0) ∨
      ∃ cap sp, ρ.h i = (some ⟨ρ.s i, 0, none⟩, n, cap) ∧ (n * e + sp.length = cap * e ∧ cap < 2 ^ 63) ∧ w.heap[ρ.s i]? = some (.cells (SV.concs ρ xs ++ sp).toArray t (0, 0)))
  | .obj o => (∀ c t f, o ≠ .cells c t f) ∧ w.heap[ρ.s i]? = some o
  | .win vs => ρ.s i < w0.heap.size ∧ (∀ p ∈ L, p.2 ≠ ρ.s i) ∧ ∀ j x, vs[j]? = some x → w0.cell? ⟨ρ.s i, ρ.o i + j, none⟩ = some x
  | .rwin e n vs => vs.length = n * e ∧ (ρ.h i).2.1 = n ∧ n ≤ (ρ.h i).2.2 ∧ (n = 0 ∨ ((ρ.h i).1 = some ⟨ρ.s i, ρ.o i, none⟩ ∧ ρ.s i < w0.heap.size ∧ (∀ p ∈ L, p.2 ≠ ρ.s i) ∧ ∀ j x, vs[j]? = some x → w0.cell? ⟨ρ.s i, ρ.o i + j, none⟩ = some x))
  | .mid pre post cs t => ρ.o i = pre.length ∧ w.heap[ρ.s i]? = some (.cells (pre ++ SV.concs ρ cs ++ post).toArray t (0, 0))
  | .kmap pk nn l => (∀ x ∈ l, x.1.pair = pk) ∧ ((ρ.o i = 0 ∧ w.heap[ρ.s i]? = some (kobj l)) ∨ (nn = false ∧ ρ.o i ≠ 0 ∧ l = []))
  | .kwin pk l => (∀ x ∈ l, x.1.pair = pk) ∧ ((ρ.o i = 0 ∧ ρ.s i < w0.heap.size ∧ (∀ p ∈ L, p.2 ≠ ρ.s i) ∧ w0.heap[ρ.s i]? = some (kobj l)) ∨ (ρ.o i ≠ 0 ∧ l = []))
  | .pin l => ∀ p ∈ l, ρ.s p.1 = p.2.1 ∧ ρ.o p.1 = p.2.2.1 ∧ ρ.h p.1 = p.2.2.2
  | .swin e n f => ρ.o i = 0 ∧ SwinAt w0 (fun b => b < w0.heap.size ∧ ∀ p ∈ L, p.2 ≠ b) (ρ.s i) e n f
/-- It has a block. -/
def SObj.occ (ρ : Env) (i : Nat) : SObj → Prop
  | .row _ _ _ _ => (ρ.h i).1 ≠ none
  | .win _ => False
  | .rwin _ _ _ => False
  | .kmap _ _ _ => ρ.o i = 0
  | .kwin _ _ => False
  | .pin _ => False
  | .swin _ _ _ => False
  | _ => True
theorem SObj.holds_lt {w0 : World} {L : List (Nat × Nat)} {ρ : Env} {i : Nat} {w : World} {o : SObj} (h : o.holds w0 L ρ i w) (ho : o.occ ρ i) : ρ.s i < w.heap.size := by
  have aux : ∀ {x : Obj}, w.heap[ρ.s i]? = some x → ρ.s i < w.heap.size := fun hx => (Array.getElem?_eq_some_iff.1 hx).1
  cases o with
  | cells cs t => exact aux h.2
  | obj o => exact aux h.2
  | win vs => exact ho.elim
  | rwin e n vs => exact ho.elim
  | mid pre post cs t => exact aux h.2
  | kmap pk nn l =>
    obtain ⟨_, h1 | h1⟩ := h
    · exact aux h1.2
    · exact absurd ho h1.2.1
  | kwin pk l => exact ho.elim
  | pin l => exact ho.elim
  | swin e n f => exact ho.elim
  | row e n xs t =>
    obtain ⟨_, _, ⟨h1, _⟩ | ⟨cap, sp, _, _, h1⟩⟩ := h
    · simp [SObj.occ, h1] at ho
    · exact aux h1
theorem SObj.holds_agree {w0 : World} {L : List (Nat × Nat)} {S : Nat → Prop} {ρ ρ' : Env} {i : Nat} {w w' : World} {o : SObj} (ha : Env.agree S ρ ρ') (hi : S i) (hs : o.sc S)
    (hw : o.occ ρ i → w'.heap[ρ.s i]? = w.heap[ρ.s i]?) (h : o.holds w0 L ρ i w) : o.holds w0 L ρ' i w' := by
  obtain ⟨e1, e0, e2⟩ := ha i hi
  cases o with
  | cells cs t => simp only [SObj.holds] at *; rw [e1, e0, hw trivial, h.2, concs_agree ha cs hs]; exact ⟨h.1, rfl⟩
  | obj o => refine ⟨h.1, ?_⟩; rw [e1, hw trivial]; exact h.2
  | win vs => simp only [SObj.holds] at *; rw [e1, e0]; exact h
  | rwin e n vs => simp only [SObj.holds] at *; rw [e1, e0, e2]; exact h
  | mid pre post cs t => simp only [SObj.holds] at *; rw [e1, e0, hw trivial, h.2, concs_agree ha cs hs]; exact ⟨h.1, rfl⟩
  | kmap pk nn l =>
    simp only [SObj.holds] at *
    rw [e1, e0]
    refine ⟨h.1, h.2.imp (fun h1 => ⟨h1.1, ?_⟩) id⟩
    rw [hw h1.1]; exact h1.2
  | kwin pk l => simp only [SObj.holds] at *; rw [e1, e0]; exact h
  | swin e n f => simp only [SObj.holds] at *; rw [e1, e0]; exact h
  | pin l =>
    simp only [SObj.holds] at *
    intro p hp
    obtain ⟨f1, f2, f3⟩ := ha p.1 (hs p hp)
    rw [f1, f2, f3]; exact h p hp
  | row e m xs t =>
    simp only [SObj.holds] at *
    refine ⟨by rw [e0]; exact h.1, h.2.1, ?_⟩
    rcases h.2.2 with ⟨h1, h2⟩ | ⟨cap, sp, h1, h2, h3⟩
    · exact .inl ⟨by rw [e2, h1], h2⟩
    · refine .inr ⟨cap, sp, by rw [e2, e1, h1], h2, ?_⟩
      rw [e1, hw (by simp [SObj.occ, h1]), concs_agree ha xs hs]; exact h3
theorem SObj.occ_agree {S : Nat → Prop} {ρ ρ' : Env} {i : Nat} {o : SObj} (ha : Env.agree S ρ ρ') (hi : S i) : o.occ ρ' i ↔ o.occ ρ i := by
  cases o <;> simp [SObj.occ, (ha i hi).2.2, (ha i hi).2.1]
theorem SObj.sc_mono {S S' : Nat → Prop} (h : ∀ i, S i → S' i) {o : SObj} (ho : o.sc S) : o.sc S' := by
  cases o with
  | cells cs t => exact SV.scs_mono h cs ho
  | row e k xs t => exact SV.scs_mono h xs ho
  | obj o => trivial
  | win vs => trivial
  | rwin e n vs => trivial
  | mid pre post cs t => exact SV.scs_mono h cs ho
  | kmap pk nn l => trivial
  | kwin pk l => trivial
  | pin l => exact fun p hp => h _ (ho p hp)
  | swin e n f => trivial
abbrev Mem := Nat → Option SObj
/-- What the symbolic memory says of the world 'w', where the call began in 'w0'; 'L': the blocks of before that it may write to (number, real block). -/
structure WI (w0 : World) (L : List (Nat × Nat)) (ρ : Env) (M : Mem) (S : Nat → Prop) (w : World) : Prop where
  mem : ∀ i o, M i = some o → S i ∧ o.sc S ∧ o.holds w0 L ρ i w
  dist : ∀ i j o o', M i = some o → M j = some o' → i ≠ j → o.occ ρ i → o'.occ ρ j → ρ.s i ≠ ρ.s j
  new : ∀ i o, M i = some o → o.occ ρ i → (∃ p ∈ L, p.2 = ρ.s i) ∨ w0.heap.size ≤ ρ.s i
  lid : ∀ p ∈ L, S p.1 ∧ ρ.s p.1 = p.2
  keep : ∀ k, k < w0.heap.size → (∀ p ∈ L, p.2 ≠ k) → w.heap[k]? = w0.heap[k]?
  size : w0.heap.size ≤ w.heap.size
  os : w.os = w0.os
  tape : w.tape = w0.tape
  output : w.output = w0.output
def upd {α : Type} (M : Nat → Option α) (i : Nat) (o : α) : Nat → Option α := fun j => if i = j then some o else M j
theorem upd_same {α : Type} (M : Nat → Option α) (i : Nat) (o : α) : upd M i o i = some o := by simp [upd]
theorem upd_other {α : Type} (M : Nat → Option α) {i j : Nat} (o : α) (h : i ≠ j) : upd M i o j = M j := by simp [upd, h]
theorem look_upd {α : Type} (k : Nat) (a : α) (l : List (Nat × α)) : look ((k, a) :: l) = upd (look l) k a := by
  funext t; rw [look_cons]; rfl
def Env.bind (ρ : Env) (i b : Nat) : Env := { ρ with s := fun j => if j = i then b else ρ.s j, o := fun j => if j = i then 0 else ρ.o j }
theorem Env.bind_agree (ρ : Env) {i : Nat} (b : Nat) {S : Nat → Prop} (hi : ¬ S i) : Env.agree S ρ (ρ.bind i b) := fun j hj => by
  have : j ≠ i := fun e => hi (e ▸ hj)
  exact ⟨by simp [Env.bind, this], by simp [Env.bind, this], rfl⟩
/-- A world that goes on: blocks of before stay, streams stay. -/
structure Ext (w w' : World) : Prop where
  keep : ∀ k, k < w.heap.size → w'.heap[k]? = w.heap[k]?
  size : w.heap.size ≤ w'.heap.size
  os : w'.os = w.os
  tape : w'.tape = w.tape
  output : w'.output = w.output
theorem Ext.refl (w : World) : Ext w w := ⟨fun _ _ => rfl, Nat.le_refl _, rfl, rfl, rfl⟩
theorem Ext.trans {a b c : World} (h : Ext a b) (k : Ext b c) : Ext a c :=
  ⟨fun i hi => (k.keep i (by have := h.size; omega)).trans (h.keep i hi), Nat.le_trans h.size k.size, k.os.trans h.os, k.tape.trans h.tape, k.output.trans h.output⟩
theorem Ext.alloc (w : World) (o : Obj) : Ext w (w.alloc o) :=
  ⟨fun k hk => by show (w.heap.push o)[k]? = _; rw [Array.getElem?_push, if_neg (by omega)], by simp, rfl, rfl, rfl⟩
theorem Ext.drew (w : World) : Ext w w.drew := ⟨fun _ _ => rfl, Nat.le_refl _, rfl, rfl, rfl⟩
section
variable {w0 w w' : World} {L : List (Nat × Nat)} {ρ : Env} {M : Mem} {S : Nat → Prop}
/-- Nothing of what is told has turned: a call that only makes blocks of its own, a draw. -/
theorem WI.ext (h : WI w0 L ρ M S w) (e : Ext w w') : WI w0 L ρ M S w' where
  mem i o hi := by
    obtain ⟨h1, h2, h3⟩ := h.mem i o hi
    exact ⟨h1, h2, SObj.holds_agree (Env.agree.refl S ρ) h1 h2 (fun ho => e.keep _ (SObj.holds_lt h3 ho)) h3⟩
  dist := h.dist
  new := h.new
  lid := h.lid
  keep k hk hL := (e.keep k (by have := h.size; omega)).trans (h.keep k hk hL)
  size := Nat.le_trans h.size e.size
  os := e.os.trans h.os
  tape := e.tape.trans h.tape
  output := e.output.trans h.output
/-- A further number, not used yet. -/
theorem WI.mono (h : WI w0 L ρ M S w) {S' : Nat → Prop} (hm : ∀ i, S i → S' i) : WI w0 L ρ M S' w where
  mem i o hi := by
    obtain ⟨h1, h2, h3⟩ := h.mem i o hi
    exact ⟨hm _ h1, SObj.sc_mono hm h2, h3⟩
  dist := h.dist
  new := h.new
  lid p hp := ⟨hm _ (h.lid p hp).1, (h.lid p hp).2⟩
  keep := h.keep
  size := h.size
  os := h.os
  tape := h.tape
  output := h.output
/-- A new block, of the number 'i'. -/
theorem WI.alloc (h : WI w0 L ρ M S w) {i : Nat} (hi : ¬ S i) {o : SObj} {x : Obj} (ho : o.sc S)
    (hh : ∀ ρ' w', Env.agree S ρ ρ' → ρ'.s i = w.heap.size → ρ'.o i = 0 → w'.heap[w.heap.size]? = some x → o.holds w0 L ρ' i w') :
    WI w0 L (ρ.bind i w.heap.size) (upd M i o) (fun j => S j ∨ j = i) (w.alloc x) ∧ Env.agree S ρ (ρ.bind i w.heap.size) := by
  have ha : Env.agree S ρ (ρ.bind i w.heap.size) := Env.bind_agree ρ w.heap.size hi
  have up : ∀ j, S j → S j ∨ j = i := fun _ => .inl
  have hs : (ρ.bind i w.heap.size).s i = w.heap.size := by simp [Env.bind]
  have old : ∀ k, k < w.heap.size → (w.alloc x).heap[k]? = w.heap[k]? := (Ext.alloc w x).keep
  refine ⟨⟨?_, ?_, ?_, ?_, ?_, ?_, h.os, h.tape, h.output⟩, ha⟩
  · intro j o' hj
    by_cases e : i = j
    · subst e
      rw [upd_same] at hj
      obtain rfl := Option.some.inj hj
      exact ⟨.inr rfl, SObj.sc_mono up ho, hh _ _ ha hs (by simp [Env.bind]) (by show (w.heap.push x)[w.heap.size]? = _; simp)⟩
    · rw [upd_other _ _ e] at hj
      obtain ⟨h1, h2, h3⟩ := h.mem j o' hj
      exact ⟨.inl h1, SObj.sc_mono up h2, SObj.holds_agree ha h1 h2 (fun hc => old _ (SObj.holds_lt h3 hc)) h3⟩
  · intro j k oj ok hj hk hne cj ck
    by_cases e : i = j
    · subst e
      rw [upd_other _ _ hne] at hk
      obtain ⟨h1, h2, h3⟩ := h.mem k ok hk
      have := SObj.holds_lt h3 ((SObj.occ_agree ha h1).1 ck)
      rw [hs, (ha k h1).1]; omega
    · rw [upd_other _ _ e] at hj
      obtain ⟨h1, h2, h3⟩ := h.mem j oj hj
      have l1 := SObj.holds_lt h3 ((SObj.occ_agree ha h1).1 cj)
      by_cases e' : i = k
      · subst e'
        rw [hs, (ha j h1).1]; omega
      · rw [upd_other _ _ e'] at hk
        obtain ⟨g1, g2, g3⟩ := h.mem k ok hk
        rw [(ha j h1).1, (ha k g1).1]
        exact h.dist j k oj ok hj hk hne ((SObj.occ_agree ha h1).1 cj) ((SObj.occ_agree ha g1).1 ck)
  · intro j oj hj cj
    by_cases e : i = j
    · subst e; right; rw [hs]; exact h.size
    · rw [upd_other _ _ e] at hj
      obtain ⟨h1, h2, h3⟩ := h.mem j oj hj
      rw [(ha j h1).1]
      exact h.new j oj hj ((SObj.occ_agree ha h1).1 cj)
  · intro p hp
    obtain ⟨h1, h2⟩ := h.lid p hp
    exact ⟨.inl h1, by rw [(ha p.1 h1).1, h2]⟩
  · intro k hk hL
    rw [old k (by have := h.size; omega)]
    exact h.keep k hk hL
  · simp; have := h.size; omega
/-- A block that is told is written over. -/
theorem WI.write (h : WI w0 L ρ M S w) {i : Nat} {o o' : SObj} {x : Obj} (hi : M i = some o) (hocc : o.occ ρ i) (ho : o'.sc S)
    {w' : World} (hw : w'.heap[ρ.s i]? = some x) (hx : w'.heap[ρ.s i]? = some x → o'.holds w0 L ρ i w') (hother : ∀ k, k ≠ ρ.s i → w'.heap[k]? = w.heap[k]?) (hsize : w'.heap.size = w.heap.size)
    (hos : w'.os = w.os) (htape : w'.tape = w.tape) (hout : w'.output = w.output) :
    WI w0 L ρ (upd M i o') S w' := by
  obtain ⟨hilt, _, _⟩ := h.mem i o hi
  refine ⟨?_, ?_, ?_, h.lid, ?_, by rw [hsize]; exact h.size, hos.trans h.os, htape.trans h.tape, hout.trans h.output⟩
  · intro j oj hj
    by_cases e : i = j
    · subst e
      rw [upd_same] at hj
      obtain rfl := Option.some.inj hj
      exact ⟨hilt, ho, hx hw⟩
    · rw [upd_other _ _ e] at hj
      obtain ⟨h1, h2, h3⟩ := h.mem j oj hj
      refine ⟨h1, h2, SObj.holds_agree (Env.agree.refl S ρ) h1 h2 (fun hc => hother _ ?_) h3⟩
      exact fun he => h.dist i j o oj hi hj e hocc hc he.symm
  · intro j k oj ok hj hk hne cj ck
    by_cases e : i = j
    · subst e
      rw [upd_other _ _ hne] at hk
      exact h.dist i k o ok hi hk hne hocc ck
    · rw [upd_other _ _ e] at hj
      by_cases e' : i = k
      · subst e'
        exact h.dist j i oj o hj hi hne cj hocc
      · rw [upd_other _ _ e'] at hk
        exact h.dist j k oj ok hj hk hne cj ck
  · intro j oj hj cj
    by_cases e : i = j
    · subst e; exact h.new i o hi hocc
    · rw [upd_other _ _ e] at hj
      exact h.new j oj hj cj
  · intro k hk hL
    rw [hother k, h.keep k hk hL]
    intro e
    rcases h.new i o hi hocc with ⟨p, hp, hpe⟩ | hle
    · exact hL p hp (hpe.trans e.symm)
    · omega
end
end Go.Sx
namespace Go.Sx
/-- A frame that runs: of a function ('none'), or of a round of a range over a function (its loop's block). -/
def fat (f : FuncId) (rd : Option Nat) (a : Act) (todo : List Item) : Frame := { fn := f, tmps := a.tmps, todo, defers := a.defers, mode := .run, kind := .normal, roundOf := rd }
/-- How a run ends: the function leaves with a value; the round has handed its answer to the one that called yield. -/
def Ends (P : Program) (f : FuncId) (rd : Option Nat) (R : Ending → World → Prop) (cs : List Frame) (m : Machine) : Prop :=
  match rd with
  | none => ∃ v w' fr, R (.returned v) w' ∧ m = lone fr cs w' ∧ fr.fn = f ∧ fr.leaving P w' (.returned v)
  | some _ => ∃ b c cs' w', cs = c :: cs' ∧ R (.returned (.bool b)) w' ∧ m = lone (c.finish (.bool b)) cs' w'
/-- From this state of its frame the run comes to an ending of which R holds. -/
def TW (P : Program) (f : FuncId) (rd : Option Nat) (a : Act) (todo : List Item) (w : World) (R : Ending → World → Prop) : Prop :=
  ∀ (cs : List Frame), (rd.isSome = true → cs ≠ []) → ∃ m, Ends P f rd R cs m ∧ Steps P (lone (fat f rd a todo) cs w) m
theorem TW.next {P : Program} {f : FuncId} {rd : Option Nat} {a a' : Act} {todo todo' : List Item} {w w' : World} {R : Ending → World → Prop}
    (h : ∀ cs, step P (lone (fat f rd a todo) cs w) = .next (lone (fat f rd a' todo') cs w')) (k : TW P f rd a' todo' w' R) : TW P f rd a todo w R := by
  intro cs hcs
  obtain ⟨m, h1, h2⟩ := k cs hcs
  exact ⟨m, h1, .head (h cs) h2⟩
theorem TW.mono {P : Program} {f : FuncId} {rd : Option Nat} {a : Act} {todo : List Item} {w : World} {R R' : Ending → World → Prop} (h : TW P f rd a todo w R) (hr : ∀ e w, R e w → R' e w) : TW P f rd a todo w R' := by
  intro cs hcs
  obtain ⟨m, h1, h2⟩ := h cs hcs
  refine ⟨m, ?_, h2⟩
  cases rd with
  | none => obtain ⟨v, w', fr, g1, g2⟩ := h1; exact ⟨v, w', fr, hr _ _ g1, g2⟩
  | some l => obtain ⟨b, c, cs', w', g1, g2, g3⟩ := h1; exact ⟨b, c, cs', w', g1, hr _ _ g2, g3⟩
theorem TW.calls {P : Program} {f : FuncId} {fn : Func} {c : Code} {args : Array Value} {w : World} {R : Ending → World → Prop} (hf : P.funcs[f]? = some fn) (hb : fn.body = some c)
    (h : TW P f none { tmps := args ++ Array.replicate (fn.ntmps - args.size) undef, defers := [] } [.code c] w R) : Calls P f args w R := by
  intro cs
  have henter : Frame.enter P f args .normal = fat f none { tmps := args ++ Array.replicate (fn.ntmps - args.size) undef, defers := [] } [.code c] := by
    simp [Frame.enter, fat, hf, hb]
  rw [henter]
  obtain ⟨m, ⟨v, w', fr, g1, rfl, g3, g4⟩, h2⟩ := h cs (by simp)
  exact ⟨.returned v, w', fr, g1, h2, g3, g4⟩
section steps
variable {P : Program} {f : FuncId} {rd : Option Nat} {a : Act} {k : List Item} {cs : List Frame} {w : World}
theorem fstep_skip : step P (lone (fat f rd a (.code .skip :: k)) cs w) = .next (lone (fat f rd a k) cs w) := step_lone_go (by simp [stepG, stepG.exec, fat])
theorem fstep_label {l : Nat} : step P (lone (fat f rd a (.code (.label l) :: k)) cs w) = .next (lone (fat f rd a k) cs w) := step_lone_go (by simp [stepG, stepG.exec, fat])
theorem fstep_inBlock {id : Nat} : step P (lone (fat f rd a (.inBlock id :: k)) cs w) = .next (lone (fat f rd a k) cs w) := step_lone_go (by simp [stepG, stepG.exec, fat])
theorem fstep_inScope {c : Code} : step P (lone (fat f rd a (.inScope c :: k)) cs w) = .next (lone (fat f rd a k) cs w) := step_lone_go (by simp [stepG, stepG.exec, fat])
theorem fstep_seq {x y : Code} : step P (lone (fat f rd a (.code (.seq x y) :: k)) cs w) = .next (lone (fat f rd a (.code x :: .code y :: k)) cs w) := step_lone_go (by simp [stepG, stepG.exec, fat])
theorem fstep_scope {x : Code} : step P (lone (fat f rd a (.code (.scope x) :: k)) cs w) = .next (lone (fat f rd a (.code x :: .inScope x :: k)) cs w) := step_lone_go (by simp [stepG, stepG.exec, fat])
theorem fat_eval (f : FuncId) (rd : Option Nat) (a : Act) (todo : List Item) : (fat f rd a todo).eval = a.eval := by funext x; cases x <;> rfl
theorem fstep_cond {c : Operand} {x y : Code} {t : Bool} (h : a.eval c = .bool t) : step P (lone (fat f rd a (.code (.cond c x y) :: k)) cs w) = .next (lone (fat f rd a (.code (if t then x else y) :: k)) cs w) :=
  step_lone_go (by
    have := congrFun (fat_eval f rd a (.code (.cond c x y) :: k)) c
    simp only [fat] at this
    simp [stepG, stepG.exec, fat, this, h])
theorem fstep_block {id : Nat} {c : Code} : step P (lone (fat f rd a (.code (.block id c) :: k)) cs w) = .next (lone (fat f rd a (.code c :: .inBlock id :: k)) cs w) := step_lone_go (by simp [stepG, stepG.exec, fat])
theorem fstep_loop {c : Code} : step P (lone (fat f rd a (.code (.loop c) :: k)) cs w) = .next (lone (fat f rd a (.code c :: .inLoop c :: k)) cs w) := step_lone_go (by simp [stepG, stepG.exec, fat])
theorem fstep_inLoop {c : Code} : step P (lone (fat f rd a (.inLoop c :: k)) cs w) = .next (lone (fat f rd a (.code c :: .inLoop c :: k)) cs w) := step_lone_go (by simp [stepG, stepG.exec, fat])
theorem fstep_exit {id : Nat} {k' : List Item} (h : exitTo id k = some k') : step P (lone (fat f rd a (.code (.exit id) :: k)) cs w) = .next (lone (fat f rd a k') cs w) := step_lone_go (by simp [stepG, stepG.exec, fat, h])
theorem fstep_region {id : Nat} {ops : Array Oper} : step P (lone (fat f rd a (.code (.region id ops false) :: k)) cs w) = .next (lone (fat f rd a (.inRegion ops (List.range ops.size) :: k)) cs w) := step_lone_go (by simp [stepG, stepG.exec, fat])
theorem fstep_region_draw {id : Nat} {ops : Array Oper} : step P (lone (fat f rd a (.code (.region id ops true) :: k)) cs w) =
    .next (lone (fat f rd a (.inRegion ops (Region.schedule (P.follows .mixedOrders) ops (w.tape w.drawn (.order f id))) :: k)) cs w.drew) :=
  step_lone_go (by simp [stepG, stepG.exec, fat, choose, Sem.run, Question.forced, Question.cut])
theorem fstep_region_end {ops : Array Oper} : step P (lone (fat f rd a (.inRegion ops [] :: k)) cs w) = .next (lone (fat f rd a k) cs w) := step_lone_go (by simp [stepG, stepG.exec, fat])
theorem fat_finish {ops : Array Oper} {i : Nat} {rest : List Nat} {v : Value} : (fat f rd a (.inRegion ops (i :: rest) :: k)).finish v = fat f rd (a.put ((ops[i]?).bind (·.dst)) v) (.inRegion ops rest :: k) := by
  cases h : (ops[i]?).bind (·.dst) <;> simp [Frame.finish, fat, Act.put, h]
theorem fstep_op_skip {ops : Array Oper} {i : Nat} {rest : List Nat} (h : ((ops[i]?).map (Region.wanted · (yielded ops a.tmps))).getD false = false) :
    step P (lone (fat f rd a (.inRegion ops (i :: rest) :: k)) cs w) = .next (lone (fat f rd (a.put ((ops[i]?).bind (·.dst)) undef) (.inRegion ops rest :: k)) cs w) := by
  rw [← fat_finish]
  exact step_lone_go (by
    have h' := h
    simp only [fat] at *
    simp [stepG, stepG.exec, h'])
theorem fstep_op {ops : Array Oper} {i : Nat} {rest : List Nat} {o : Oper} (ho : ops[i]? = some o) (hw : Region.wanted o (yielded ops a.tmps) = true) (hnd : ∀ c, o.op ≠ .defer c) :
    stepG P true { frame := fat f rd a (.inRegion ops (i :: rest) :: k), callers := cs, status := .running, dying := none } w =
      stepG.apply P true (fat f rd a (.inRegion ops (i :: rest) :: k)) cs none (execOp a.eval o) w := by
  have he := fat_eval f rd a (.inRegion ops (i :: rest) :: k)
  simp only [fat] at he
  cases hop : o.op <;> first
    | exact absurd hop (hnd _)
    | (cases rd <;> simp [stepG, stepG.exec, stepG.oper, Frame.oper?, fat, ho, hw, he, hop])
end steps
theorem TW.ret {P : Program} {f : FuncId} {fn : Func} {a : Act} {k : List Item} {w : World} {R : Ending → World → Prop} {v : Value} (hf : P.funcs[f]? = some fn) (hd : a.defers = [])
    (hr : (results fn a.tmps).run P w = .ok v w) (h : R (.returned v) w) : TW P f none a (.code .ret :: k) w R := fun _ _ =>
  ⟨_, ⟨v, w, _, h, rfl, rfl, rfl, hd, rfl, fn, hf, hr⟩, .one (step_lone_go (by simp [stepG, stepG.exec, fat]; rfl))⟩
theorem TW.fin {P : Program} {f : FuncId} {fn : Func} {a : Act} {w : World} {R : Ending → World → Prop} {v : Value} (hf : P.funcs[f]? = some fn) (hd : a.defers = [])
    (hr : (results fn a.tmps).run P w = .ok v w) (h : R (.returned v) w) : TW P f none a [] w R := fun _ _ =>
  ⟨_, ⟨v, w, _, h, rfl, rfl, rfl, hd, rfl, fn, hf, hr⟩, .one (step_lone_go (by simp [stepG, stepG.exec, fat]; rfl))⟩
/-- What one operation comes to: a value, or nothing, or a call that returns. -/
def Oc (P : Program) (a : Act) (o : Oper) (w : World) (K : Value → World → Prop) : Prop :=
  match (execOp a.eval o).run P w with
  | .ok (.value v) w' => K v w'
  | .ok .skip w' => K undef w'
  | .ok (.enter f args) w' => Calls P f args w' fun e w'' => ∃ v, e = .returned v ∧ K v w''
  | _ => False
theorem Oc.mono {P : Program} {a : Act} {o : Oper} {w : World} {K K' : Value → World → Prop} (h : Oc P a o w K) (hk : ∀ v w', K v w' → K' v w') : Oc P a o w K' := by
  unfold Oc at *
  split at h
  · exact hk _ _ h
  · exact hk _ _ h
  · exact h.mono fun e w' ⟨v, h1, h2⟩ => ⟨v, h1, hk _ _ h2⟩
  · exact h.elim
theorem Oc.value {P : Program} {a : Act} {o : Oper} {w w' : World} {K : Value → World → Prop} {v : Value} (h : (execOp a.eval o).run P w = .ok (.value v) w') (hk : K v w') : Oc P a o w K := by
  unfold Oc; rw [h]; exact hk
theorem Oc.skip {P : Program} {a : Act} {o : Oper} {w w' : World} {K : Value → World → Prop} (h : (execOp a.eval o).run P w = .ok .skip w') (hk : K undef w') : Oc P a o w K := by
  unfold Oc; rw [h]; exact hk
theorem Oc.noDefer {P : Program} {a : Act} {o : Oper} {w : World} {K : Value → World → Prop} (h : Oc P a o w K) : ∀ c, o.op ≠ .defer c := by
  intro c hc
  unfold Oc at h
  have hr : (execOp a.eval o).run P w = ((resolve a.eval c o.type).run P w).andThen fun d w' => .ok (.defer d) w' := by simp [execOp, hc]
  rw [hr] at h
  cases hq : (resolve a.eval c o.type).run P w with
  | ok d w' => rw [hq] at h; exact h
  | halt x w' => rw [hq] at h; exact h
theorem TW.op {P : Program} {f : FuncId} {rd : Option Nat} {a : Act} {ops : Array Oper} {i : Nat} {rest : List Nat} {k : List Item} {w : World} {R : Ending → World → Prop} {o : Oper} (ho : ops[i]? = some o)
    (hw : Region.wanted o (yielded ops a.tmps) = true) (h : Oc P a o w fun v w' => TW P f rd (a.put o.dst v) (.inRegion ops rest :: k) w' R) :
    TW P f rd a (.inRegion ops (i :: rest) :: k) w R := by
  intro cs hcs
  have hg := fstep_op (P := P) (f := f) (rd := rd) (a := a) (k := k) (cs := cs) (w := w) (rest := rest) ho hw h.noDefer
  have hfin : ∀ v, (fat f rd a (.inRegion ops (i :: rest) :: k)).finish v = fat f rd (a.put o.dst v) (.inRegion ops rest :: k) := by
    intro v; rw [fat_finish, ho]; rfl
  unfold Oc at h
  split at h
  · rename_i v w' hr
    obtain ⟨m, h1, h2⟩ := h cs hcs
    refine ⟨m, h1, .head (step_lone_go ?_) h2⟩
    rw [hg, ← hfin]; simp [stepG.apply, hr]
  · rename_i w' hr
    obtain ⟨m, h1, h2⟩ := h cs hcs
    refine ⟨m, h1, .head (step_lone_go ?_) h2⟩
    rw [hg, ← hfin]; simp [stepG.apply, hr]
  · rename_i g args w' hr
    obtain ⟨e, w'', fr, ⟨v, rfl, hR⟩, hsteps, _, hleave⟩ := h (fat f rd a (.inRegion ops (i :: rest) :: k) :: cs)
    have henter : step P (lone (fat f rd a (.inRegion ops (i :: rest) :: k)) cs w) = .next (lone (Frame.enter P g args .normal) (fat f rd a (.inRegion ops (i :: rest) :: k) :: cs) w') :=
      step_lone_go (by rw [hg]; simp [stepG.apply, hr, fat])
    obtain ⟨m, h1, h2⟩ := hR cs hcs
    refine ⟨m, h1, .head henter (Steps.trans hsteps (.head ?_ h2))⟩
    rw [← hfin]; exact step_leave_returned hleave
  · exact h.elim
theorem TW.pass {P : Program} {f : FuncId} {rd : Option Nat} {a : Act} {ops : Array Oper} {i : Nat} {rest : List Nat} {k : List Item} {w : World} {R : Ending → World → Prop} {o : Oper} (ho : ops[i]? = some o)
    (hw : Region.wanted o (yielded ops a.tmps) = false) (h : TW P f rd (a.put o.dst undef) (.inRegion ops rest :: k) w R) : TW P f rd a (.inRegion ops (i :: rest) :: k) w R := by
  refine TW.next (fun cs => ?_) h
  have hs := fstep_op_skip (P := P) (f := f) (rd := rd) (a := a) (k := k) (cs := cs) (w := w) (ops := ops) (i := i) (rest := rest) (by simp [ho, hw])
  simpa [ho] using hs
inductive Sh where
  | str (fs : List (Nat × Nat × Bool))
  | arr (n e : Nat) (agg : Bool)
  | slc (e : TypeId) (n b : Nat)
  | int (k : IntKind)
  | bool
  | string
  | ptr
  | fn
  | map (k e : TypeId)
  | other
structure TI where
  size : Nat
  zero : List Value
  sh : Sh
  eqn : Option Nat := none
  raw : Option Value := none
/-- A struct of n integers, one cell each, that '==' compares. -/
def eqInts (P : Program) (t : TypeId) (n : Nat) : Bool :=
  !P.stoodInHeld t && !P.eqGuardType P.depth t && match P.underlying t with
    | some (.struct fs) => fs.toList.length == n && fs.toList.zipIdx.all fun (f, i) => f.name != "_" && f.offset == i && (match P.underlying f.type with | some (.int _) => true | _ => false)
    | _ => false
def isAggD : TypeDesc → Bool
  | .struct _ | .array .. => true
  | _ => false
def fieldSh (P : Program) (t : TypeId) : Nat × Bool :=
  match P.info? t, P.underlying t with
  | some i, some d => (i.size, isAggD d)
  | _, _ => (0, false)
def shOf (P : Program) : TypeDesc → Sh
  | .struct fields => .str (fields.toList.map fun f => (f.offset, fieldSh P f.type))
  | .array n e => .arr n (fieldSh P e).1 (fieldSh P e).2
  | .slice e => match P.info? e with
    | some i => .slc e i.size i.bytes
    | none => .other
  | .int k => .int k
  | .bool => .bool
  | .string => .string
  | .pointer _ => .ptr
  | .func .. => .fn
  | .map k e => .map k e
  | _ => .other
def Sh.isAgg : Sh → Bool
  | .str _ | .arr .. => true
  | _ => false
structure TI.ok (P : Program) (t : TypeId) (ti : TI) : Prop where
  info : (P.info? t).map (fun i => (i.size, i.zero.map (·.cells.toList))) = some (ti.size, some ti.zero)
  und : (P.underlying t).map (shOf P) = some ti.sh
  eq : ti.eqn.all (eqInts P t) = true
  rawz : match ti.raw with
    | none => True
    | some z => ((P.info? t).map (·.zero)) = some (some z)
abbrev Tab := List (Nat × TI)
def Tab.oks (P : Program) : Tab → Prop
  | [] => True
  | x :: l => TI.ok P x.1 x.2 ∧ Tab.oks P l
theorem Tab.ok_look {P : Program} : ∀ {tab : Tab}, Tab.oks P tab → ∀ {t ti}, look tab t = some ti → TI.ok P t ti
  | [], _, t, ti, h => by simp [look] at h
  | (k, x) :: l, h, t, ti, hl => by
    rw [look_cons] at hl
    split at hl
    · rename_i e; obtain rfl := Option.some.inj hl; subst e; exact h.1
    · exact Tab.ok_look h.2 hl
theorem TI.ok.infos {P : Program} {t : TypeId} {ti : TI} (h : TI.ok P t ti) : ∃ i z, P.info? t = some i ∧ i.size = ti.size ∧ i.zero = some z ∧ z.cells.toList = ti.zero := by
  have := h.info
  cases hi : P.info? t with
  | none => simp [hi] at this
  | some i =>
    cases hz : i.zero with
    | none => simp [hi, hz] at this
    | some z => simp [hi, hz] at this; exact ⟨i, z, rfl, this.1, hz, this.2⟩
theorem TI.ok.desc {P : Program} {t : TypeId} {ti : TI} (h : TI.ok P t ti) : ∃ d, P.underlying t = some d ∧ shOf P d = ti.sh := by
  have := h.und
  cases hi : P.underlying t with
  | none => simp [hi] at this
  | some d => simp [hi] at this; exact ⟨d, rfl, this⟩
theorem isAgg_sh {P : Program} (d : TypeDesc) : (shOf P d).isAgg = isAggD d := by
  cases d <;> try rfl
  case slice e => simp only [shOf, isAggD]; split <;> rfl
section
variable {P : Program} {w : World}
theorem run_size {t : TypeId} {ti : TI} (h : TI.ok P t ti) : (sizeOf t).run P w = .ok ti.size w := by
  obtain ⟨i, z, h1, h2, h3, h4⟩ := h.infos
  simp [sizeOf, typeInfo, h1, h2]
theorem run_und {t : TypeId} {d : TypeDesc} (h : P.underlying t = some d) : (underlying t).run P w = .ok d w := by
  simp [underlying, h]
theorem run_isAgg {t : TypeId} {ti : TI} (h : TI.ok P t ti) : (Go.isAgg t).run P w = .ok ti.sh.isAgg w := by
  obtain ⟨d, h1, h2⟩ := h.desc
  rw [← h2, isAgg_sh]
  unfold Go.isAgg
  simp only [Sem.run_bind, run_und h1, Result.andThen_ok]
  cases d <;> rfl
theorem run_zero {t : TypeId} {ti : TI} (h : TI.ok P t ti) : ∃ z, (zeroValue t).run P w = .ok z w ∧ z.cells = ti.zero.toArray := by
  obtain ⟨i, z, h1, h2, h3, h4⟩ := h.infos
  exact ⟨z, by simp [zeroValue, typeInfo, h1, h3], by rw [← h4]⟩
end
abbrev Tm := Nat → Option SV
def ev (T : Tm) : Operand → Option SV
  | .tmp t => T t
  | .const v => some (.v v)
  | .global g => some (.v (.pointer (some ⟨g, 0, none⟩)))
  | .func f => some (.v (.func (.func f) #[] #[]))
/-- What the symbolic temporaries say of the real ones. -/
def TmOk (ρ : Env) (T : Tm) (S : Nat → Prop) (a : Act) : Prop := ∀ t v, T t = some v → t < a.tmps.size ∧ a.tmps.getD t undef = v.conc ρ ∧ v.sc S
theorem ev_ok {ρ : Env} {T : Tm} {S : Nat → Prop} {a : Act} (h : TmOk ρ T S a) {x : Operand} {v : SV} (hx : ev T x = some v) : a.eval x = v.conc ρ ∧ v.sc S := by
  cases x with
  | tmp t => exact ⟨(h t v hx).2.1, (h t v hx).2.2⟩
  | const c => simp [ev] at hx; subst hx; exact ⟨rfl, trivial⟩
  | global g => simp [ev] at hx; subst hx; exact ⟨rfl, trivial⟩
  | func f => simp [ev] at hx; subst hx; exact ⟨rfl, trivial⟩
def evs (T : Tm) : List Operand → Option (List SV)
  | [] => some []
  | x :: l => match ev T x with
    | some v => match evs T l with
      | some vs => some (v :: vs)
      | none => none
    | none => none
theorem evs_ok {ρ : Env} {T : Tm} {S : Nat → Prop} {a : Act} (h : TmOk ρ T S a) : ∀ {l : List Operand} {vs : List SV}, evs T l = some vs → l.map a.eval = SV.concs ρ vs ∧ SV.scs S vs
  | [], vs, hl => by simp [evs] at hl; subst hl; exact ⟨rfl, trivial⟩
  | x :: l, vs, hl => by
    unfold evs at hl
    cases hx : ev T x with
    | none => simp [hx] at hl
    | some v =>
      cases hr : evs T l with
      | none => simp [hx, hr] at hl
      | some vs' =>
        simp [hx, hr] at hl
        subst hl
        obtain ⟨h1, h2⟩ := ev_ok h hx
        obtain ⟨h3, h4⟩ := evs_ok h hr
        exact ⟨by simp [SV.concs, h1, h3], h2, h4⟩
def get {α : Type} : List α → Nat → Option α
  | [], _ => none
  | a :: _, 0 => some a
  | _ :: l, n + 1 => get l n
def takeD {α : Type} : List α → Nat → Nat → Option (List α)
  | _, 0, 0 => some []
  | [], 0, _ + 1 => none
  | a :: l, 0, n + 1 => match takeD l 0 n with
    | some r => some (a :: r)
    | none => none
  | [], _ + 1, _ => none
  | _ :: l, i + 1, n => takeD l i n
def writeD {α : Type} : List α → Nat → List α → Option (List α)
  | l, 0, [] => some l
  | [], 0, _ :: _ => none
  | _ :: l, 0, b :: r => match writeD l 0 r with
    | some r' => some (b :: r')
    | none => none
  | [], _ + 1, _ => none
  | a :: l, i + 1, r => match writeD l i r with
    | some r' => some (a :: r')
    | none => none
theorem get_eq {α : Type} : ∀ (l : List α) (n : Nat), get l n = l[n]?
  | [], _ => by simp [get]
  | _ :: _, 0 => by simp [get]
  | _ :: l, n + 1 => by simp [get, get_eq l n]
theorem takeD_eq {α : Type} : ∀ (l : List α) (i n : Nat) (r : List α), takeD l i n = some r → i + n ≤ l.length ∧ r = (l.drop i).take n
  | l, 0, 0, r, h => by cases l <;> simp [takeD] at h <;> simp [h]
  | [], 0, n + 1, r, h => by simp [takeD] at h
  | a :: l, 0, n + 1, r, h => by
    cases hl : takeD l 0 n with
    | none => simp [takeD, hl] at h
    | some r' =>
      simp [takeD, hl] at h
      obtain ⟨h1, h2⟩ := takeD_eq l 0 n r' hl
      subst h h2
      simp at h1 ⊢; omega
  | [], i + 1, n, r, h => by simp [takeD] at h
  | a :: l, i + 1, n, r, h => by
    simp [takeD] at h
    obtain ⟨h1, h2⟩ := takeD_eq l i n r h
    exact ⟨by simp; omega, by simpa using h2⟩
theorem writeD_eq {α : Type} : ∀ (l : List α) (i : Nat) (r l' : List α), writeD l i r = some l' → i + r.length ≤ l.length ∧ l' = l.take i ++ r ++ l.drop (i + r.length)
  | l, 0, [], l', h => by cases l <;> simp [writeD] at h <;> simp [h]
  | [], 0, _ :: _, l', h => by simp [writeD] at h
  | a :: l, 0, b :: r, l', h => by
    cases hl : writeD l 0 r with
    | none => simp [writeD, hl] at h
    | some r' =>
      simp [writeD, hl] at h
      obtain ⟨h1, h2⟩ := writeD_eq l 0 r r' hl
      subst h h2
      simp at h1 ⊢; omega
  | [], i + 1, r, l', h => by cases r <;> simp [writeD] at h
  | a :: l, i + 1, r, l', h => by
    cases hl : writeD l i r with
    | none => cases r <;> simp [writeD, hl] at h
    | some r' =>
      have h' : l' = a :: r' := by cases r <;> simp [writeD, hl] at h <;> exact h.symm
      obtain ⟨h1, h2⟩ := writeD_eq l i r r' hl
      subst h' h2
      refine ⟨by simp; omega, ?_⟩
      rw [show i + 1 + r.length = (i + r.length) + 1 by omega]
      simp
end Go.Sx
