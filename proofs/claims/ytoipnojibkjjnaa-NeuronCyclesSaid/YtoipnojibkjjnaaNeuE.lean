/-
  Walks of the functions of package neuron (part E): the iterators 'slices.All(..)' and that of 'Silent', each as a list of calls of yield.
  For every list of at most 2^62 elements.
-/
import Derived.Test.YtoipnojibkjjnaaRefB
import Derived.Test.YtoipnojibkjjnaaSxR
namespace Go.Proofs.Ytoipnojibkjjnaa
open Go.Sx
set_option maxRecDepth 100000

theorem allT {T T' : List (Nat × SV)} {ρ ρ' : Env} {n' : Nat} (h : AllP (fun x => ∃ v, Sx.look T x.1 = some v ∧ v.conc ρ = x.2.conc ρ' ∧ x.2.sc (· < n')) T') : ∀ x ∈ T', ∃ v, Sx.look T x.1 = some v ∧ v.conc ρ = x.2.conc ρ' ∧ x.2.sc (· < n') := AllP.mem h
/-- A loop's counter goes on. -/
theorem wrap_succ {i : Nat} (h : i < 4611686018427387904) : IntKind.i64.wrap ((i : Int) + 1) = ((i + 1 : Nat) : Int) := by
  have h1 : W ((i : Int) + 1) = _ := W_eq ((i : Int) + 1)
  simp only [W] at h1
  rw [h1]; omega

theorem win_start {w : World} {b : Nat} {v : Value} (hlt : b < w.heap.size) (hcell : w.cell? ⟨b, 0, none⟩ = some v) : WI w [] (envB b) (Sx.look [(0, .win [v])]) (· < 1) w := by
  refine ⟨?_, ?_, ?_, ?_, fun _ _ _ => rfl, Nat.le_refl _, rfl, rfl, rfl⟩
  · intro i o ho
    rw [look_cons] at ho
    split at ho
    · rename_i e; subst e; obtain rfl := Option.some.inj ho
      refine ⟨Nat.one_pos, trivial, hlt, by simp, fun j x hx => ?_⟩
      cases j with
      | zero => simp at hx; subst hx; exact hcell
      | succ j => simp at hx
    · simp [Sx.look] at ho
  · intro i j o o' hi hj hij _ _
    rw [look_cons] at hi hj
    split at hi
    · split at hj
      · omega
      · simp [Sx.look] at hj
    · simp [Sx.look] at hi
  · intro i o hi hc
    rw [look_cons] at hi
    split at hi
    · obtain rfl := Option.some.inj hi; exact hc.elim
    · simp [Sx.look] at hi
  · intro p hp; cases hp

/-- The calls of a range over the elements of a list. -/
def ints (xs : List Int) : List Value := xs.map fun x => .int .i64 x
theorem ints_length (xs : List Int) : (ints xs).length = xs.length := by simp [ints]
def numbered (xs : List Int) : List (List Value) := xs.mapIdx fun i x => [.int .i64 (i : Int), .int .i64 x]

theorem all_iter (b : Nat) (v : Value) (xs : List Int) (w0 : World) (hb : w0.cell? ⟨b, 0, none⟩ = some v) (hr : RowAt w0 v (ints xs)) (hlen : xs.length < 4611686018427387904) (blks : List Nat) (hblk : xs ≠ [] → ∀ k, v.ownBlock = some k → k ∈ blks) :
    Iter Try.prog 54 [.pointer (some ⟨b, 0, none⟩)] (b :: blks) w0 (numbered xs) := by
  intro l J hext hB hy w hw
  have hbw := hB 0 w hw
  have hcell : w.cell? ⟨b, 0, none⟩ = some v := by rw [World.cell?_of_block (hbw b (by simp))]; exact hb
  have hlt := World.block_lt_of_cell? _ _ hcell
  obtain ⟨p, cap, rfl⟩ := hr.len
  rw [ints_length] at hr hb hcell hblk
  have hW0 : WI w [] (envB b) (Sx.look [(0, .win [.slice p xs.length cap])]) (· < 1) w := win_start hlt hcell
  have hc : ∀ w', Cx.ok ⟨Try.prog, tab, [], 54, Try.f54, [], w', [], none⟩ := fun w' => ⟨tab_ok, trivial, Try.func54, mixed, fun _ h => by cases h⟩
  refine Run.calls (tab := tab) (pf := []) (cuts := []) Try.func54 rfl (envB b) [.v (.func (.yield l) #[] #[]), .ptr 0 0] _ 1 (by simp [SV.scs, SV.sc]) rfl hW0 (Run.of_wpK (hc w) 2000 _ ?_)
  conv => whnf
  refine Run.trim (T' := [(0, .v (.func (.yield l) #[] #[])), (5, .v (.slice p xs.length cap)), (6, ii xs.length), (7, ii 0)]) (M' := []) 0 (by repeat' (first | exact trivial | exact rfl | apply And.intro)) trivial (fun p hp => by cases hp) ?_
  refine Run.count (cx := fun w => ⟨Try.prog, tab, [], 54, Try.f54, [], w, [], none⟩) (T := fun i => [(0, .v (.func (.yield l) #[] #[])), (5, .v (.slice p xs.length cap)), (6, ii xs.length), (7, ii (i : Int))]) (M := fun _ => []) (J := J) xs.length ?_ ?_ 0 w (Nat.zero_le _) hw
  · intro i w' hi hJ ih
    refine Run.of_wpK (hc w') 1000 _ ?_
    conv => whnf
    split
    · conv => whnf
      have hr' : RowAt w' (.slice p xs.length cap) (ints xs) := hr.move fun bb hbb => hB i w' hJ bb (List.mem_cons_of_mem _ (hblk (fun h => by rw [h] at hi; simp at hi) bb hbb))
      rcases hr' with ⟨_, hv⟩ | ⟨blk, off, cap', hv, hcells⟩
      · rw [← ints_length, hv] at hi; simp at hi
      obtain ⟨rfl, _, rfl⟩ := Value.slice.inj hv
      obtain ⟨x, hx⟩ : ∃ x, xs[i]? = some x := ⟨xs[i], by simp [hi]⟩
      refine Run.indexV (hc w') rfl rfl rfl rfl i rfl rfl rfl hi rfl rfl ?_
      refine Run.of_wpK (hc w') 1000 _ ?_
      conv => whnf
      refine Run.loadV (hc w') rfl rfl rfl rfl rfl rfl rfl (fun p hp => by cases hp) (hcells i (.int .i64 x) (by simp [ints, hx])) ?_
      refine Run.of_wpK (hc w') 1000 _ ?_
      conv => whnf
      refine Run.callY rfl rfl rfl rfl rfl rfl fun ρ w1 hW1 => ?_
      refine (hy i w1 _ (hext i w' w1 hJ hW1.toExt) (by rw [numbered, List.getElem?_mapIdx, hx]; rfl)).mono fun b w2 ⟨hb2, hJ2⟩ => ?_
      subst hb2
      refine ⟨[(0, .v (.func (.yield l) #[] #[])), (5, .v (.slice (some ⟨blk, off, none⟩) xs.length cap)), (6, ii xs.length), (7, ii (i : Int))], ρ, [], 0, [], ?_, WI.start w2 ρ, ?_⟩
      · exact allT ⟨⟨_, rfl, rfl, trivial⟩, ⟨_, rfl, rfl, trivial⟩, ⟨_, rfl, rfl, trivial⟩, ⟨_, rfl, rfl, trivial⟩, trivial⟩
      refine Run.of_wpK (hc w2) 1000 _ ?_
      conv => whnf
      rw [wrap_succ (by omega)]
      exact Run.trim (M' := []) 0 (by repeat' (first | exact trivial | exact rfl | apply And.intro)) trivial (fun p hp => by cases hp) (ih w2 hJ2)
    · rename_i hn; have := of_decide_eq_false hn; omega
  · intro w' hJ
    refine Run.of_wpK (hc w') 1000 _ ?_
    conv => whnf
    split
    · rename_i hn; have := of_decide_eq_true hn; omega
    · conv => whnf
      exact ⟨fun ρ w2 hW2 _ => ⟨⟨_, rfl⟩, by rw [numbered, List.length_mapIdx]; exact hext _ w' w2 hJ hW2.toExt⟩⟩

/-- The calls of the iterator of 'Silent'. -/
def silences (n : Nat) : List (List Value) := (List.range n).map fun (i : Nat) => [.int .i64 (i : Int), .int .i64 0]
theorem silent_iter (b n : Nat) (w0 : World) (hb : w0.cell? ⟨b, 0, none⟩ = some (.int .i64 (n : Int))) (hlen : n < 4611686018427387904) : Iter Try.prog 48 [.pointer (some ⟨b, 0, none⟩)] [b] w0 (silences n) := by
  intro l J hext hB hy w hw
  have hbw := hB 0 w hw
  have hcell : w.cell? ⟨b, 0, none⟩ = some (.int .i64 (n : Int)) := by rw [World.cell?_of_block (hbw b (by simp))]; exact hb
  have hlt := World.block_lt_of_cell? _ _ hcell
  have hW0 : WI w [] (envB b) (Sx.look [(0, .win [.int .i64 (n : Int)])]) (· < 1) w := win_start hlt hcell
  have hc : ∀ w', Cx.ok ⟨Try.prog, tab, [], 48, Try.f48, [], w', [], none⟩ := fun w' => ⟨tab_ok, trivial, Try.func48, mixed, fun _ h => by cases h⟩
  refine Run.calls (tab := tab) (pf := []) (cuts := []) Try.func48 rfl (envB b) [.v (.func (.yield l) #[] #[]), .ptr 0 0] _ 1 (by simp [SV.scs, SV.sc]) rfl hW0 (Run.of_wpK (hc w) 2000 _ ?_)
  conv => whnf
  refine Run.trim (T' := [(0, .v (.func (.yield l) #[] #[])), (4, ii (n : Int)), (5, ii 0)]) (M' := []) 0 (by repeat' (first | exact trivial | exact rfl | apply And.intro)) trivial (fun p hp => by cases hp) ?_
  refine Run.count (cx := fun w => ⟨Try.prog, tab, [], 48, Try.f48, [], w, [], none⟩) (T := fun i => [(0, .v (.func (.yield l) #[] #[])), (4, ii (n : Int)), (5, ii (i : Int))]) (M := fun _ => []) (J := J) n ?_ ?_ 0 w (Nat.zero_le _) hw
  · intro i w' hi hJ ih
    refine Run.of_wpK (hc w') 1000 _ ?_
    conv => whnf
    split
    · conv => whnf
      refine Run.callY rfl rfl rfl rfl rfl rfl fun ρ w1 hW1 => ?_
      refine (hy i w1 _ (hext i w' w1 hJ hW1.toExt) (by rw [silences, List.getElem?_map, List.getElem?_range hi]; rfl)).mono fun b w2 ⟨hb2, hJ2⟩ => ?_
      subst hb2
      refine ⟨[(0, .v (.func (.yield l) #[] #[])), (4, ii (n : Int)), (5, ii (i : Int))], ρ, [], 0, [], ?_, WI.start w2 ρ, ?_⟩
      · exact allT ⟨⟨_, rfl, rfl, trivial⟩, ⟨_, rfl, rfl, trivial⟩, ⟨_, rfl, rfl, trivial⟩, trivial⟩
      refine Run.of_wpK (hc w2) 1000 _ ?_
      conv => whnf
      rw [wrap_succ (by omega)]
      exact Run.trim (M' := []) 0 (by repeat' (first | exact trivial | exact rfl | apply And.intro)) trivial (fun p hp => by cases hp) (ih w2 hJ2)
    · rename_i hn; have := of_decide_eq_false hn; omega
  · intro w' hJ
    refine Run.of_wpK (hc w') 1000 _ ?_
    conv => whnf
    split
    · rename_i hn; have := of_decide_eq_true hn; omega
    · conv => whnf
      exact ⟨fun ρ w2 hW2 _ => ⟨⟨_, rfl⟩, by rw [silences, List.length_map, List.length_range]; exact hext _ w' w2 hJ hW2.toExt⟩⟩
end Go.Proofs.Ytoipnojibkjjnaa
