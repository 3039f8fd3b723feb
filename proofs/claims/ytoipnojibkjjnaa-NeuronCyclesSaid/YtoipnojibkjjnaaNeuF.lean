/-
  Walks of the functions of package neuron (part F): 'spikes': the ticks with spikes, for some inputs.
  For every iterator that calls yield with a list of at most 10000 inputs.
-/
import Derived.Test.YtoipnojibkjjnaaNeuE
namespace Go.Proofs.Ytoipnojibkjjnaa
open Go.Sx
set_option maxRecDepth 100000

/-- The state behind some inputs. -/
def steps (p : Prm) (s : Ste) : List Int → Ste
  | [] => s
  | x :: xs => steps p (stepS p s x) xs
/-- The ticks with spikes, from number i. -/
def outs (p : Prm) : Ste → Nat → List Int → List Int
  | _, _, [] => []
  | s, i, x :: xs => if stepB p s x then (i : Int) :: outs p (stepS p s x) (i + 1) xs else outs p (stepS p s x) (i + 1) xs
theorem steps_snoc (p : Prm) (x : Int) : ∀ (xs : List Int) (s : Ste), steps p s (xs ++ [x]) = stepS p (steps p s xs) x
  | [], _ => rfl
  | y :: xs, s => steps_snoc p x xs (stepS p s y)
theorem outs_snoc (p : Prm) (x : Int) : ∀ (xs : List Int) (s : Ste) (i : Nat), outs p s i (xs ++ [x]) = outs p s i xs ++ (if stepB p (steps p s xs) x then [((i + xs.length : Nat) : Int)] else [])
  | [], s, i => rfl
  | y :: xs, s, i => by
    simp only [List.cons_append, outs, steps, outs_snoc p x xs, List.length_cons]
    rw [show i + 1 + xs.length = i + (xs.length + 1) by omega]
    split
    · rfl
    · rfl
theorem outs_length (p : Prm) : ∀ (xs : List Int) (s : Ste) (i : Nat), (outs p s i xs).length ≤ xs.length
  | [], s, i => Nat.le_refl _
  | x :: xs, s, i => by
    simp only [outs]
    have := outs_length p xs (stepS p s x) (i + 1)
    split <;> simp <;> omega
theorem take_snoc {xs : List Int} {i : Nat} {x : Int} (h : xs[i]? = some x) : xs.take (i + 1) = xs.take i ++ [x] := by
  have hi : i < xs.length := (List.getElem?_eq_some_iff.1 h).1
  rw [List.take_succ_eq_append_getElem hi]
  simp [(List.getElem?_eq_some_iff.1 h).2]

/-- What is told in the loop of 'spikes'. -/
def spL (p : Prm) (s : Ste) (l : List Int) : List (Nat × SObj) := [(0, .cells (cellOf p s) 63), (1, .cells [.ptr 0 0] 57), (2, .cells [.opq 3] 31), (3, .row 1 l.length (l.map fun x => .v (.int .i64 x)) 3)]
/-- What is told after i rounds. -/
abbrev spM (p : Prm) (s : Ste) (xs : List Int) (i : Nat) : List (Nat × SObj) := spL p (steps p s (xs.take i)) (outs p s 0 (xs.take i))
theorem scs_i (S : Nat → Prop) : ∀ (l : List Int), SV.scs S (l.map fun x => .v (.int .i64 x))
  | [] => trivial
  | _ :: l => ⟨trivial, scs_i S l⟩
theorem rens_i (r : Nat → Nat) : ∀ (l : List Int), SV.rens r (l.map fun x => .v (.int .i64 x)) = l.map fun x => .v (.int .i64 x)
  | [] => rfl
  | x :: l => by simp only [List.map_cons, SV.rens, rens_i r l]; rfl
theorem concs_i (ρ : Env) : ∀ (l : List Int), SV.concs ρ (l.map fun x => .v (.int .i64 x)) = ints l
  | [] => rfl
  | x :: l => by simp only [List.map_cons, SV.concs, concs_i ρ l]; rfl
theorem lt05 : 0 < 6 := by omega
theorem lt35 : 3 < 6 := by omega
def r37 : Nat → Nat := fun j => if j = 3 then 7 else j
theorem r37_inj {a b : Nat} (ha : a < 6) (hb : b < 6) (h : a ≠ b) : r37 a ≠ r37 b := by
  unfold r37
  split <;> split <;> omega
theorem LessM.r37 {L : List (Nat × Nat)} {M M' : List (Nat × SObj)} (hm : ∀ x ∈ M', Sx.look M (r37 x.1) = some (x.2.ren r37) ∧ x.1 < 6 ∧ x.2.sc (· < 6)) (hL : ∀ p ∈ L, p.1 ≠ 3 ∧ p.1 < 6) : LessM r37 L M' 6 M :=
  ⟨hm, fun x hx y hy h => r37_inj (hm x hx).2.1 (hm y hy).2.1 h, fun p hp => ⟨by unfold Go.Proofs.Ytoipnojibkjjnaa.r37; rw [if_neg (hL p hp).1], (hL p hp).2⟩⟩

theorem cellOf_sc (p : Prm) (s : Ste) (S : Nat → Prop) : SV.scs S (cellOf p s) := by simp [cellOf, Prm.cells, Ste.cells, SV.scs, SV.sc]

theorem spikes_run (p : Prm) (s : Ste) (hk : p.lk = 0 ∨ p.lk = 1 ∨ p.lk = 2) (b : Nat) (g : FuncId) (caps : List Value) (B : List Nat) (xs : List Int) (ys : List (List Value)) (w : World) (hb : CellAt b p s w) (hg : Enters Try.prog g)
    (hys : ys.length = xs.length ∧ ∀ (i : Nat) y, ys[i]? = some y → ∃ x, xs[i]? = some x ∧ y = [.int .i64 (i : Int), .int .i64 x]) (hxs : xs.length ≤ 10000) (hB : ∀ k ∈ B, k < w.heap.size ∧ k ≠ b) (hit : Iter Try.prog g caps B w ys) :
    Calls Try.prog 42 #[.pointer (some ⟨b, 0, none⟩), .func (.func g) #[] caps.toArray] w fun e w' =>
      ∃ v, e = .returned v ∧ Sx.Mod w b w' ∧ CellAt b p (steps p s xs) w' ∧ w'.ownsRow w.heap.size 3 1 v (outs p s 0 xs).length (ints (outs p s 0 xs)) := by
  have hW0 := WI.startL (w := w) (i := 0) (b := b) (n := 1) (ρ := envB b) (o := .cells (cellOf p s) 63) (by omega) rfl (cellOf_sc _ _ _) ⟨rfl, hb⟩
  have hc : ∀ L rd, (∀ q, rd = some q → q ∈ L) → Cx.ok ⟨Try.prog, tab, [], 42, Try.f42, [], w, L, rd⟩ := fun L rd h => ⟨tab_ok, trivial, Try.func42, mixed, h⟩
  refine Run.calls (tab := tab) (pf := []) (cuts := []) Try.func42 rfl (envB b) [.ptr 0 0, .v (.func (.func g) #[] caps.toArray)] _ 1 (by simp [SV.scs, SV.sc]) rfl hW0 (Run.of_wpK (hc _ none (fun _ h => by cases h)) 2000 _ ?_)
  conv => whnf
  refine Run.nilRow (T' := [(0, .ptr 0 0), (1, .v (.func (.func g) #[] caps.toArray)), (2, .ptr 1 0), (4, .v (.slice none 0 0)), (5, .ptr 2 0), (8, .v (.func (.func g) #[] caps.toArray))])
    (M' := spM p s xs 0) 1 3 (AllP.mem ⟨⟨_, rfl, .inl rfl⟩, ⟨_, rfl, .inl rfl⟩, ⟨_, rfl, .inl rfl⟩, ⟨_, rfl, .inl rfl⟩, ⟨_, rfl, .inl rfl⟩, ⟨_, rfl, .inl rfl⟩, trivial⟩)
    (AllP.mem ⟨.inr ⟨_, rfl, .inl rfl⟩, .inr ⟨_, rfl, .inl rfl⟩, .inr ⟨_, rfl, .inr ⟨_, rfl, rfl⟩⟩, .inl rfl, trivial⟩) ?_
  refine Run.rangeFunc (T0 := [(0, .ptr 0 0), (1, .v (.func (.func g) #[] caps.toArray)), (2, .ptr 1 0), (4, .v (.slice none 0 0)), (5, .ptr 2 0), (8, .v (.func (.func g) #[] caps.toArray))]) (g := g) (caps := caps.map .v) rfl rfl (by simp [calleeOf]) hg [0, 1, 2] (spM p s xs) 6 ys (by simp) ?_ ?_ (by omega) ?_ ?_ ?_ ?_ id ?_ ?_ ?_ ?_
  · exact AllP.mem (l := [9, 10]) ⟨Nat.le_of_ble_eq_true rfl, Nat.le_of_ble_eq_true rfl, trivial⟩
  · intro v hv
    obtain ⟨i, hi⟩ := List.mem_iff_getElem?.1 hv
    obtain ⟨x, _, rfl⟩ := hys.2 i v hi
    rfl
  · exact AllP.mem (l := [0, 1, 2]) ⟨⟨by omega, _, _, rfl⟩, ⟨by omega, _, _, rfl⟩, ⟨by omega, _, _, rfl⟩, trivial⟩
  · exact fun i => AllP.mem (l := [0, 1, 2]) ⟨⟨_, _, rfl⟩, ⟨_, _, rfl⟩, ⟨_, _, rfl⟩, trivial⟩
  · intro q hq
    simp at hq
    simp [hq]
  · exact AllP.mem ⟨⟨rfl, by simp [SV.pinned]⟩, ⟨rfl, trivial⟩, ⟨rfl, by simp [SV.pinned]⟩, ⟨rfl, trivial⟩, ⟨rfl, by simp [SV.pinned]⟩, ⟨rfl, trivial⟩, trivial⟩
  · intro a d L' hL'
    exact ⟨AllP.mem ⟨⟨rfl, by omega, trivial⟩, ⟨rfl, by omega, trivial⟩, ⟨by rw [oren_id]; rfl, by omega, cellOf_sc _ _ _⟩, ⟨by rw [oren_id]; rfl, by omega, lt05, trivial⟩, ⟨by rw [oren_id]; rfl, by omega, lt35, trivial⟩, ⟨by rw [oren_id]; rfl, by omega, scs_i _ _⟩, trivial⟩,
      fun _ _ _ _ h => h, fun q hq => ⟨rfl, by have := hL' q hq; simp at this; omega⟩⟩
  · intro ρ w1 hW1
    refine ⟨B, ?_, fun L' _ hwid ρ' i a d w' hW' bb hbb => ?_⟩
    · rw [concs_v]
      exact hit.move fun bb hbb => hW1.keep bb (hB bb hbb).1 (fun q hq => by simp at hq; subst hq; exact fun e => (hB bb hbb).2 e.symm)
    · have h1 := hW1.keep bb (hB bb hbb).1 (fun q hq => by simp at hq; subst hq; exact fun e => (hB bb hbb).2 e.symm)
      rw [h1]
      refine hW'.keep bb (hB bb hbb).1 fun q hq => ?_
      rcases hwid.own q hq with ⟨q', hq', he⟩ | hge
      · simp at hq'; subst hq'; rw [← he]; exact fun e => (hB bb hbb).2 e.symm
      · have : w.heap.size ≤ q.2 := hge
        have := (hB bb hbb).1
        omega
  · intro i v hv L' l a d hl hL'
    obtain ⟨x, hx, rfl⟩ := hys.2 i v hv
    refine Run.of_wpK (hc L' (some (1 + 1 + 1 + 1 + 1, l)) (fun q hq => by obtain rfl := Option.some.inj hq; exact hl)) 1000 _ ?_
    conv => whnf
    refine Run.tick p (steps p s (xs.take i)) x 0 hk rfl rfl rfl rfl rfl rfl rfl rfl rfl ?_
    refine Run.of_wpK (hc L' (some (1 + 1 + 1 + 1 + 1, l)) (fun q hq => by obtain rfl := Option.some.inj hq; exact hl)) 1000 _ ?_
    conv => whnf
    have e1 := steps_snoc p x (xs.take i) s
    have e2 := outs_snoc p x (xs.take i) s 0
    have hil := (List.getElem?_eq_some_iff.1 hx).1
    have hli : (xs.take i).length = i := by simp; omega
    have hlo := outs_length p (xs.take i) s 0
    rw [← take_snoc hx] at e1 e2
    cases hf : stepB p (steps p s (xs.take i)) x with
    | true =>
      rw [hf] at e2
      conv => whnf
      refine Run.append (hc L' (some (1 + 1 + 1 + 1 + 1, l)) (fun q hq => by obtain rfl := Option.some.inj hq; exact hl)) rfl rfl rfl rfl rfl rfl rfl rfl rfl rfl rfl rfl rfl rfl rfl (by omega) ⟨by omega, by omega⟩ [(1 + 1 + 1 + 1 + 1, _), (1 + 1 + 1 + 1, _), (0, _), (1, _), (2, _)]
        (AllP.mem ⟨⟨rfl, by omega⟩, ⟨rfl, by omega⟩, ⟨rfl, by omega⟩, ⟨rfl, by omega⟩, ⟨rfl, by omega⟩, trivial⟩) ?_
      refine Run.of_wpK (hc L' (some (1 + 1 + 1 + 1 + 1, l)) (fun q hq => by obtain rfl := Option.some.inj hq; exact hl)) 1000 _ ?_
      conv => whnf
      rw [if_pos rfl, hli, Nat.zero_add] at e2
      refine ⟨fun ρ w' hW _ => ⟨rfl, ρ.ren r37, ?_⟩⟩
      simp only [spM]
      rw [e1, e2]
      refine hW.less (LessM.r37 (AllP.mem ⟨⟨rfl, by omega, trivial⟩, ⟨rfl, by omega, trivial⟩, ⟨rfl, by omega, cellOf_sc _ _ _⟩, ⟨rfl, by omega, lt05, trivial⟩, ⟨rfl, by omega, lt35, trivial⟩, ⟨?_, by omega, scs_i _ _⟩, trivial⟩) fun q hq => ?_)
      · refine Eq.trans (b := some (SObj.row 1 ((outs p s 0 (xs.take i)).length + 1) ((outs p s 0 (xs.take i)).map (fun x => .v (.int .i64 x)) ++ [.v (.int .i64 (i : Int))]) 3)) rfl ?_
        simp only [SObj.ren, rens_i]
        simp only [List.map_append, List.length_append]
        rfl
      · have := hL' q hq
        simp at this
        omega
    | false =>
      rw [hf] at e2
      conv => whnf
      rw [if_neg (by decide), List.append_nil] at e2
      refine ⟨fun ρ w' hW _ => ⟨rfl, ρ, ?_⟩⟩
      simp only [spM]
      rw [e1, e2]
      have hl := hW.less (r := id) (M' := inLoop (1 + 1 + 1 + 1) a 42 _ _ _ d (spL p (stepS p (steps p s (xs.take i)) x) (outs p s 0 (xs.take i)))) (n' := 6) ⟨AllP.mem ⟨⟨rfl, by omega, trivial⟩, ⟨rfl, by omega, trivial⟩, ⟨by rw [oren_id]; rfl, by omega, cellOf_sc _ _ _⟩, ⟨by rw [oren_id]; rfl, by omega, lt05, trivial⟩, ⟨by rw [oren_id]; rfl, by omega, lt35, trivial⟩, ⟨by rw [oren_id]; rfl, by omega, scs_i _ _⟩, trivial⟩,
        fun _ _ _ _ h => h, fun q hq => ⟨rfl, by have := hL' q hq; simp at this; omega⟩⟩
      exact hl
  · intro L' a d hwid hd
    refine Run.of_wpK (hc L' none (fun q hq => by cases hq)) 1000 _ ?_
    conv => whnf
    refine Run.retD (hc L' none (fun q hq => by cases hq)) rfl (1 + 1 + 1 + 1) d hd rfl (.inr ⟨_, rfl⟩) rfl ⟨fun ρ w' hW _ => ?_⟩
    have hW := hW.narrow hwid
    have h0 : ρ.s 0 = b := (hW.lid (0, b) (by simp)).2
    have hlen : xs.take ys.length = xs := by rw [hys.1, List.take_length]
    have hm0 := hW.mem 0 _ rfl
    have ho := hW.ownsOut (i := 3) (e := 1) (m := (outs p s 0 (xs.take ys.length)).length) (xs := (outs p s 0 (xs.take ys.length)).map fun x => .v (.int .i64 x)) (t := 3) rfl Nat.one_pos (fun q hq hocc => by
      simp at hq; subst hq
      have := hW.dist 0 3 _ _ rfl rfl (by omega) trivial hocc
      rw [h0] at this; exact this)
    rw [hlen] at ho
    refine ⟨_, rfl, hW.toMod, ?_, ?_⟩
    · have := hm0.2.2.2
      rw [h0, hlen] at this
      exact this
    · rw [concs_i] at ho; exact ho
end Go.Proofs.Ytoipnojibkjjnaa
