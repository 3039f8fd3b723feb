/-
  Walks of the functions of the statements' package: 'equal', the neurons of the examples.
  For lists of at most 2^62 elements; the world only gets new blocks.
-/
import Derived.Test.YtoipnojibkjjnaaNeuG
namespace Go.Proofs.Ytoipnojibkjjnaa
open Go.Sx
set_option maxRecDepth 100000

def env2 (b1 o1 b2 o2 : Nat) : Env := ⟨fun j => if j = 0 then b1 else b2, fun j => if j = 0 then o1 else o2, fun _ => (none, 0, 0)⟩
/-- The start of a call whose two arguments are slices that are not nil. -/
theorem two_start {w : World} {b1 o1 b2 o2 : Nat} {xs ys : List Value} (l1 : b1 < w.heap.size) (l2 : b2 < w.heap.size) (h1 : ∀ j x, xs[j]? = some x → w.cell? ⟨b1, o1 + j, none⟩ = some x) (h2 : ∀ j x, ys[j]? = some x → w.cell? ⟨b2, o2 + j, none⟩ = some x) :
    WI w [] (env2 b1 o1 b2 o2) (Sx.look [(0, .win xs), (1, .win ys)]) (· < 2) w := by
  have key : ∀ i o, Sx.look [(0, SObj.win xs), (1, .win ys)] i = some o → (i = 0 ∧ o = .win xs) ∨ (i = 1 ∧ o = .win ys) := by
    intro i o hi
    rw [look_cons] at hi
    split at hi
    · rename_i e; exact .inl ⟨e.symm, (Option.some.inj hi).symm⟩
    · rw [look_cons] at hi
      split at hi
      · rename_i e; exact .inr ⟨e.symm, (Option.some.inj hi).symm⟩
      · simp [Sx.look] at hi
  refine ⟨?_, ?_, ?_, (fun p hp => by cases hp), fun _ _ _ => rfl, Nat.le_refl _, rfl, rfl, rfl⟩
  · intro i o hi
    rcases key i o hi with ⟨rfl, rfl⟩ | ⟨rfl, rfl⟩
    · exact ⟨by omega, trivial, l1, (fun p hp => by cases hp), h1⟩
    · exact ⟨by omega, trivial, l2, (fun p hp => by cases hp), h2⟩
  · intro i j o o' hi _ _ hc _
    rcases key i o hi with ⟨rfl, rfl⟩ | ⟨rfl, rfl⟩ <;> exact hc.elim
  · intro i o hi hc
    rcases key i o hi with ⟨rfl, rfl⟩ | ⟨rfl, rfl⟩ <;> exact hc.elim

theorem equal_run (v1 v2 : Value) (xs ys : List Int) (w : World) (h1 : RowAt w v1 (ints xs)) (h2 : RowAt w v2 (ints ys)) (hlen : xs.length < 4611686018427387904) :
    Calls Try.prog 20 #[v1, v2] w fun e w' => e = .returned (.bool (xs == ys)) ∧ Ext w w' := by
  have hc : ∀ (q : Cx), q = ⟨Try.prog, tab, [], 20, Try.f20, cuts20, w, [], none⟩ → q.ok := by
    rintro _ rfl
    exact ⟨tab_ok, trivial, Try.func20, mixed, fun _ h => by cases h⟩
  by_cases hne : xs.length = ys.length
  · cases xs with
    | nil =>
      have : ys = [] := List.eq_nil_of_length_eq_zero hne.symm
      subst this
      obtain ⟨p1, c1, rfl⟩ := h1.len
      obtain ⟨p2, c2, rfl⟩ := h2.len
      refine Run.start0 (tab := tab) (pf := []) (cuts := cuts20) mixed tab_ok trivial Try.func20 rfl [.v (.slice p1 0 c1), .v (.slice p2 0 c2)] 1000 (by simp [SV.scs, SV.sc]) rfl ?_
      conv => whnf
      refine Run.of_wpK (hc _ rfl) 1000 _ ?_
      conv => whnf
      exact ⟨fun ρ w' hW _ => ⟨rfl, hW.toExt⟩⟩
    | cons x0 xs0 =>
      generalize hxs : x0 :: xs0 = xs at *
      have hx0 : ints xs ≠ [] := by subst hxs; simp [ints]
      have hy0 : ints ys ≠ [] := by
        intro h
        have := congrArg List.length h
        rw [ints_length, ← hne] at this
        subst hxs; simp at this
      have b1 := fun k => h1.blk hx0 (k := k)
      have b2 := fun k => h2.blk hy0 (k := k)
      rcases h1 with ⟨_, h⟩ | ⟨blk1, off1, c1, rfl, h1⟩
      · exact absurd h hx0
      rcases h2 with ⟨_, h⟩ | ⟨blk2, off2, c2, rfl, h2⟩
      · exact absurd h hy0
      have hW0 := two_start (b1 blk1 rfl) (b2 blk2 rfl) h1 h2
      rw [ints_length, ints_length, ← hne]
      have ha : #[.slice (some ⟨blk1, off1, none⟩) xs.length c1, .slice (some ⟨blk2, off2, none⟩) xs.length c2] = (SV.concs (env2 blk1 off1 blk2 off2) [.slc 0 0 xs.length c1, .slc 1 0 xs.length c2]).toArray := by simp [SV.concs, SV.conc, env2]
      rw [ha]
      refine Run.calls (tab := tab) (pf := []) (cuts := cuts20) Try.func20 rfl (env2 blk1 off1 blk2 off2) [.slc 0 0 xs.length c1, .slc 1 0 xs.length c2] _ 2 (by simp [SV.scs, SV.sc]) rfl hW0 (Run.of_wpK (hc _ rfl) 2000 _ ?_)
      conv => whnf
      cases hq : ((xs.length : Int) != (xs.length : Int))
      · conv => whnf
        refine Run.trim (T' := [(0, .slc 0 0 xs.length c1), (1, .slc 1 0 xs.length c2), (4, .v (.bool false)), (5, ii 0)]) (M' := [(0, .win (ints xs)), (1, .win (ints ys))]) 2 ⟨⟨rfl, by simp [SV.sc]⟩, ⟨rfl, by simp [SV.sc]⟩, ⟨rfl, trivial⟩, ⟨rfl, trivial⟩, trivial⟩ ⟨⟨rfl, by omega, trivial⟩, ⟨rfl, by omega, trivial⟩, trivial⟩ (fun p hp => by cases hp) ?_
        refine Run.count (cx := fun _ => _) (T := fun i => [(0, .slc 0 0 xs.length c1), (1, .slc 1 0 xs.length c2), (4, .v (.bool false)), (5, ii (i : Int))]) (M := fun _ => [(0, .win (ints xs)), (1, .win (ints ys))]) (J := fun i _ => ∀ j, j < i → xs[j]? = ys[j]?) xs.length ?_ ?_ 0 w (Nat.zero_le _) (fun j hj => by omega)
        · intro i w' hi hJ ih
          refine Run.of_wpK (hc _ rfl) 1000 _ ?_
          conv => whnf
          split
          · conv => whnf
            have hi' : i < ys.length := by omega
            refine ⟨⟨by omega, by omega⟩, ?_⟩
            conv => whnf
            rw [opF_load_win rfl rfl rfl rfl (get_at hi)]
            conv => whnf
            refine ⟨⟨by omega, by omega⟩, ?_⟩
            conv => whnf
            rw [opF_load_win rfl rfl rfl rfl (get_at hi')]
            conv => whnf
            refine ⟨by kernel_rfl, ?_⟩
            conv => whnf
            cases hq2 : (xs[i] != ys[i])
            · conv => whnf
              rw [wrap_succ (by omega)]
              refine Run.trim (T' := [(0, .slc 0 0 xs.length c1), (1, .slc 1 0 xs.length c2), (4, .v (.bool false)), (5, ii ((i + 1 : Nat) : Int))]) (M' := [(0, .win (ints xs)), (1, .win (ints ys))]) 2 ⟨⟨rfl, by simp [SV.sc]⟩, ⟨rfl, by simp [SV.sc]⟩, ⟨rfl, trivial⟩, ⟨rfl, trivial⟩, trivial⟩ ⟨⟨rfl, by omega, trivial⟩, ⟨rfl, by omega, trivial⟩, trivial⟩ (fun p hp => by cases hp) (ih w' fun j hj => ?_)
              rcases Nat.lt_or_ge j i with h | h
              · exact hJ j h
              · obtain rfl : j = i := by omega
                rw [List.getElem?_eq_getElem hi, List.getElem?_eq_getElem hi']
                simpa using hq2
            · conv => whnf
              refine ⟨fun ρ w' hW _ => ⟨?_, hW.toExt⟩⟩
              have : (xs == ys) = false := by
                simp only [beq_eq_false_iff_ne, ne_eq]
                rintro rfl
                simp at hq2
              rw [this]; rfl
          · rename_i hn; have := of_decide_eq_false hn; omega
        · intro w' hJ
          refine Run.of_wpK (hc _ rfl) 1000 _ ?_
          conv => whnf
          split
          · rename_i hn; have := of_decide_eq_true hn; omega
          · conv => whnf
            have : xs = ys := by
              apply List.ext_getElem?
              intro j
              rcases Nat.lt_or_ge j xs.length with h | h
              · exact hJ j h
              · rw [List.getElem?_eq_none h, List.getElem?_eq_none (by omega)]
            refine ⟨fun ρ w' hW _ => ⟨?_, hW.toExt⟩⟩
            rw [this]; simp [SV.conc]
      · simp at hq
  · obtain ⟨p1, c1, rfl⟩ := h1.len
    obtain ⟨p2, c2, rfl⟩ := h2.len
    rw [ints_length, ints_length]
    refine Run.start0 (tab := tab) (pf := []) (cuts := cuts20) mixed tab_ok trivial Try.func20 rfl [.v (.slice p1 xs.length c1), .v (.slice p2 ys.length c2)] 1000 (by simp [SV.scs, SV.sc]) rfl ?_
    conv => whnf
    cases hq : ((xs.length : Int) != (ys.length : Int))
    · exfalso; simp at hq; omega
    · conv => whnf
      refine ⟨fun ρ w' hW _ => ⟨?_, hW.toExt⟩⟩
      have : (xs == ys) = false := by simp; exact fun h => hne (by rw [h])
      rw [this]; rfl

/-! ### The neurons of the examples -/
def exA : Prm := ⟨1, 1, 0, 5, 0, 0, -4, 1⟩
def exB : Prm := ⟨0, 0, 2, 5, 1, 0, -4, 1⟩
theorem A_run (w : World) : Calls Try.prog 37 #[] w fun e w' => e = .returned (exA.sv.conc env0) ∧ Ext w w' := by
  refine Run.start0 (tab := tab) (pf := []) (cuts := []) mixed tab_ok trivial Try.func37 rfl [] 1000 (by simp [SV.scs]) rfl ?_
  conv => whnf
  exact ⟨fun ρ w' hW _ => ⟨rfl, hW.toExt⟩⟩
theorem B_run (w : World) : Calls Try.prog 38 #[] w fun e w' => e = .returned (exB.sv.conc env0) ∧ Ext w w' := by
  refine Run.start0 (tab := tab) (pf := []) (cuts := []) mixed tab_ok trivial Try.func38 rfl [] 1000 (by simp [SV.scs]) rfl ?_
  conv => whnf
  exact ⟨fun ρ w' hW _ => ⟨rfl, hW.toExt⟩⟩

/-- A function without arguments that returns a struct of integers. -/
def FC_v (v : SV) : List SV → Option SV
  | [] => some v
  | _ => none
abbrev FC (v : SV) : Mem → List SV → Option (List Nat × SV) := plainF (FC_v v)
theorem A_pure_v : PureV Try.prog 37 (FC_v exA.sv) where
  ent := ent _ _ Try.func37 (by kernel_rfl) rfl
  sc S args v h _ := by
    cases args <;> simp [FC_v] at h
    subst h
    simp [SV.sc, SV.scs, Prm.sv, Prm.cells]
  run ρ args v w h := by
    cases args <;> simp [FC_v] at h
    subst h
    exact A_run w
theorem A_pure : Pure Try.prog 37 (FC exA.sv) := (A_pure_v).lift
theorem B_pure_v : PureV Try.prog 38 (FC_v exB.sv) where
  ent := ent _ _ Try.func38 (by kernel_rfl) rfl
  sc S args v h _ := by
    cases args <;> simp [FC_v] at h
    subst h
    simp [SV.sc, SV.scs, Prm.sv, Prm.cells]
  run ρ args v w h := by
    cases args <;> simp [FC_v] at h
    subst h
    exact B_run w
theorem B_pure : Pure Try.prog 38 (FC exB.sv) := (B_pure_v).lift
end Go.Proofs.Ytoipnojibkjjnaa
