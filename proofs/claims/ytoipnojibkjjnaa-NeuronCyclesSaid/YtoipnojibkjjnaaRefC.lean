/-
  Walks of the functions of the reference of package neuron (part C): 'Run', 'Silent', 'Next': what they compute, and that it is what the package's own compute.
  For every neuron, state and list of at most 2^62 inputs; the world only gets new blocks.
-/
import Derived.Test.YtoipnojibkjjnaaPlain
namespace Go.Proofs.Ytoipnojibkjjnaa
open Go.Sx
set_option maxRecDepth 100000

def rsteps (p : Prm) (s : Ste) : List Int → Ste
  | [] => s
  | x :: xs => rsteps p (rstepS p s x) xs
def routs (p : Prm) : Ste → Nat → List Int → List Int
  | _, _, [] => []
  | s, i, x :: xs => if rstepB p s x then (i : Int) :: routs p (rstepS p s x) (i + 1) xs else routs p (rstepS p s x) (i + 1) xs
theorem rsteps_snoc (p : Prm) (x : Int) : ∀ (xs : List Int) (s : Ste), rsteps p s (xs ++ [x]) = rstepS p (rsteps p s xs) x
  | [], _ => rfl
  | y :: xs, s => rsteps_snoc p x xs (rstepS p s y)
theorem routs_snoc (p : Prm) (x : Int) : ∀ (xs : List Int) (s : Ste) (i : Nat), routs p s i (xs ++ [x]) = routs p s i xs ++ (if rstepB p (rsteps p s xs) x then [((i + xs.length : Nat) : Int)] else [])
  | [], s, i => rfl
  | y :: xs, s, i => by
    simp only [List.cons_append, routs, rsteps, routs_snoc p x xs, List.length_cons]
    rw [show i + 1 + xs.length = i + (xs.length + 1) by omega]
    split <;> simp
    · rfl
    · rfl
theorem routs_length (p : Prm) : ∀ (xs : List Int) (s : Ste) (i : Nat), (routs p s i xs).length ≤ xs.length
  | [], s, i => Nat.le_refl _
  | x :: xs, s, i => by
    simp only [routs]
    have := routs_length p xs (rstepS p s x) (i + 1)
    split <;> simp <;> omega
theorem steps_same {p : Prm} : ∀ {xs : List Int} {s : Ste} {i : Nat}, vld p s = 0 → steps p s xs = rsteps p s xs ∧ outs p s i xs = routs p s i xs
  | [], _, _, _ => ⟨rfl, rfl⟩
  | x :: xs, s, i, h => by
    obtain ⟨hg, _, hr⟩ := vld_good.1 h
    obtain ⟨e1, e2⟩ := step_same (chk_good.2 hg) hr.1 x
    obtain ⟨g1, g2⟩ := steps_same (xs := xs) (s := stepS p s x) (i := i + 1) (vld_step h x)
    rw [e1] at g1 g2
    simp only [steps, rsteps, outs, routs, e1, e2, g1, g2]
    exact ⟨trivial, trivial⟩

def rrunR (p : Prm) (s : Ste) (xs : List Int) : List Int × Ste × Int :=
  if vld p s = 0 then (if xs.length ≤ 10000 then (routs p s 0 xs, rsteps p s xs, 0) else ([], ⟨0, 0⟩, 9)) else ([], ⟨0, 0⟩, vld p s)
theorem run_same (p : Prm) (s : Ste) (xs : List Int) : runR p s xs = rrunR p s xs := by
  unfold runR rrunR
  split
  · rename_i h
    rw [(steps_same (i := 0) h).1, (steps_same h).2]
  · rfl

/-- What is told in the loop of the reference's 'Run'. -/
def rrM (p : Prm) (s : Ste) (xs : List Int) (i : Nat) (o : SObj) : List (Nat × SObj) :=
  [(0, o), (1, .cells p.cells 23), (2, .cells (rsteps p s (xs.take i)).cells 25), (3, .cells [ii 0, ii 0] 25), (4, .row 1 (routs p s 0 (xs.take i)).length ((routs p s 0 (xs.take i)).map fun x => .v (.int .i64 x)) 3)]

theorem one_start {w : World} {b o : Nat} {xs : List Value} (l1 : b < w.heap.size) (h1 : ∀ j x, xs[j]? = some x → w.cell? ⟨b, o + j, none⟩ = some x) :
    WI w [] (env2 b o b o) (Sx.look [(0, .win xs)]) (· < 1) w := by
  have key : ∀ i ob, Sx.look [(0, SObj.win xs)] i = some ob → i = 0 ∧ ob = .win xs := by
    intro i ob hi
    rw [look_cons] at hi
    split at hi
    · rename_i e; exact ⟨e.symm, (Option.some.inj hi).symm⟩
    · simp [Sx.look] at hi
  refine ⟨?_, ?_, ?_, (fun p hp => by cases hp), fun _ _ _ => rfl, Nat.le_refl _, rfl, rfl, rfl⟩
  · intro i ob hi
    obtain ⟨rfl, rfl⟩ := key i ob hi
    exact ⟨by omega, trivial, l1, (fun p hp => by cases hp), h1⟩
  · intro i j ob ob' hi _ _ hc _
    obtain ⟨rfl, rfl⟩ := key i ob hi
    exact hc.elim
  · intro i ob hi hc
    obtain ⟨rfl, rfl⟩ := key i ob hi
    exact hc.elim

theorem rRun_run (p : Prm) (s : Ste) (v : Value) (xs : List Int) (w : World) (hr : RowAt w v (ints xs)) : Calls Try.prog 19 #[p.sv.conc env0, s.sv.conc env0, v] w (RunPost (rrunR p s xs) w) := by
  obtain ⟨vd, hvd⟩ : ∃ vd : Prm → Ste → Int, vld = vd := ⟨vld, rfl⟩
  obtain ⟨pfR, hpR⟩ : ∃ pfR : PF, pfR = (41, FPSI goSV) :: [(26, FPS fun p s => .int .i64 (vd p s))] := ⟨_, rfl⟩
  have hpf : PF.oks Try.prog pfR := by rw [hpR, ← hvd]; exact ⟨go_pure, rvalid_pure, trivial⟩
  have hc : ∀ (q : Cx), q = ⟨Try.prog, tab, pfR, 19, Try.f19, cuts19, w, [], none⟩ → q.ok := by
    rintro _ rfl
    exact ⟨tab_ok, hpf, Try.func19, mixed, fun _ h => by cases h⟩
  subst hpR
  have hR : rrunR p s xs = if vd p s = 0 then (if xs.length ≤ 10000 then (routs p s 0 xs, rsteps p s xs, 0) else ([], ⟨0, 0⟩, 9)) else ([], ⟨0, 0⟩, vd p s) := by rw [← hvd]; rfl
  rw [hR]
  by_cases hx0 : xs = []
  · subst hx0
    obtain ⟨pp, cap, rfl⟩ := hr.len
    refine Run.start0 (tab := tab) (pf := (41, FPSI goSV) :: [(26, FPS fun p s => .int .i64 (vd p s))]) (cuts := cuts19) mixed tab_ok hpf Try.func19 rfl [p.sv, s.sv, .v (.slice pp 0 cap)] 1000 (by simp [SV.scs, SV.sc, Prm.sv, Prm.cells, Ste.sv, Ste.cells]) rfl ?_
    conv => whnf
    cases hv : vd p s != 0
    · have hv0 : vd p s = 0 := by simpa using hv
      conv => whnf
      refine Run.of_wpK (hc _ rfl) 1000 _ ?_
      conv => whnf
      refine ⟨by kernel_rfl, ?_⟩
      conv => whnf
      refine ⟨fun ρ w' hW _ => ⟨.slice none 0 0, ?_, hW.toExt, ?_⟩⟩
      · rw [if_pos hv0, if_pos (by simp)]; rfl
      · rw [if_pos hv0, if_pos (by simp)]; exact World.ownsRow_nil _ _ _ _
    · have hv0 : ¬ vd p s = 0 := by simpa using hv
      conv => whnf
      refine ⟨fun ρ w' hW _ => ⟨.slice none 0 0, ?_, hW.toExt, ?_⟩⟩
      · rw [if_neg hv0]; rfl
      · rw [if_neg hv0]; exact World.ownsRow_nil _ _ _ _
  · have hb := fun k => hr.blk (by simpa [ints] using hx0) (k := k)
    rcases hr with ⟨_, h⟩ | ⟨blk, off, cap, rfl, h1⟩
    · exact absurd h (by simpa [ints] using hx0)
    have hW0 := one_start (hb blk rfl) h1
    rw [ints_length]
    have ha : #[p.sv.conc env0, s.sv.conc env0, .slice (some ⟨blk, off, none⟩) xs.length cap] = (SV.concs (env2 blk off blk off) [p.sv, s.sv, .slc 0 0 xs.length cap]).toArray := by simp [SV.concs, SV.conc, env2, Prm.sv, Prm.cells, Ste.sv, Ste.cells]
    rw [ha]
    refine Run.calls (tab := tab) (pf := (41, FPSI goSV) :: [(26, FPS fun p s => .int .i64 (vd p s))]) (cuts := cuts19) Try.func19 rfl (env2 blk off blk off) [p.sv, s.sv, .slc 0 0 xs.length cap] _ 1 (by simp [SV.scs, SV.sc, Prm.sv, Prm.cells, Ste.sv, Ste.cells]) rfl hW0 (Run.of_wpK (hc _ rfl) 2000 _ ?_)
    conv => whnf
    cases hv : vd p s != 0
    · have hv0 : vd p s = 0 := by simpa using hv
      conv => whnf
      split
      · rename_i hl
        have hl := of_decide_eq_true hl
        conv => whnf
        refine ⟨fun ρ w' hW _ => ⟨.slice none 0 0, ?_, hW.toExt, ?_⟩⟩
        · rw [if_pos hv0, if_neg (by omega)]; rfl
        · rw [if_pos hv0, if_neg (by omega)]; exact World.ownsRow_nil _ _ _ _
      · rename_i hl
        have hl := of_decide_eq_false hl
        conv => whnf
        refine Run.nilRow (T' := [(2, .slc 0 0 xs.length cap), (3, .ptr 1 0), (4, .ptr 2 0), (7, .ptr 3 0), (10, .opq 4), (11, ii 0)]) (M' := rrM p s xs 0 (.win (ints xs))) 1 3
          (AllP.mem ⟨⟨_, rfl, .inl rfl⟩, ⟨_, rfl, .inl rfl⟩, ⟨_, rfl, .inl rfl⟩, ⟨_, rfl, .inl rfl⟩, ⟨_, rfl, .inr ⟨rfl, rfl⟩⟩, ⟨_, rfl, .inl rfl⟩, trivial⟩)
          (AllP.mem ⟨.inr ⟨_, rfl, .inl rfl⟩, .inr ⟨_, rfl, .inl rfl⟩, .inr ⟨_, rfl, .inl rfl⟩, .inr ⟨_, rfl, .inl rfl⟩, .inl rfl, trivial⟩) ?_
        refine Run.upTo (T := fun i => [(2, .slc 0 0 xs.length cap), (3, .ptr 1 0), (4, .ptr 2 0), (7, .ptr 3 0), (10, .opq 4), (11, ii (i : Int))]) (M := fun i => rrM p s xs i (.win (ints xs))) xs.length ?_ ?_
        · intro i hi ih
          refine Run.of_wpK (hc _ rfl) 1000 _ ?_
          conv => whnf
          split
          · conv => whnf
            refine ⟨⟨by omega, by omega⟩, ?_⟩
            conv => whnf
            rw [opF_load_win rfl rfl rfl rfl (get_at hi)]
            conv => whnf
            refine ⟨by kernel_rfl, ?_⟩
            conv => whnf
            have hx : xs[i]? = some xs[i] := List.getElem?_eq_getElem hi
            have e1 := rsteps_snoc p xs[i] (xs.take i) s
            have e2 := routs_snoc p xs[i] (xs.take i) s 0
            have hli : (xs.take i).length = i := by simp; omega
            have hlo := routs_length p (xs.take i) s 0
            rw [← take_snoc hx] at e1 e2
            rw [hli, Nat.zero_add] at e2
            cases hf : rstepB ⟨p.lk, p.leak, p.bias, p.thr, p.rk, p.reset, p.floor, p.rest⟩ ⟨(rsteps p s (xs.take i)).v, (rsteps p s (xs.take i)).rest⟩ xs[i] with
            | true =>
              have hf' : rstepB p (rsteps p s (xs.take i)) xs[i] = true := hf
              rw [hf', if_pos rfl] at e2
              conv => whnf
              refine Run.append (hc _ rfl) rfl rfl rfl rfl rfl rfl rfl rfl rfl rfl rfl rfl rfl rfl rfl (by omega) ⟨by omega, by omega⟩ [(0, _), (1, _), (2, _), (3, _)]
                (AllP.mem ⟨⟨rfl, by omega⟩, ⟨rfl, by omega⟩, ⟨rfl, by omega⟩, ⟨rfl, by omega⟩, trivial⟩) ?_
              refine Run.of_wpK (hc _ rfl) 1000 _ ?_
              conv => whnf
              rw [wrap_succ (by omega)]
              refine Run.trimR 4 18 5 (by omega) (T' := [(2, .slc 0 0 xs.length cap), (3, .ptr 1 0), (4, .ptr 2 0), (7, .ptr 3 0), (10, .opq 4), (11, ii ((i + 1 : Nat) : Int))]) (M' := rrM p s xs (i + 1) (.win (ints xs)))
                ⟨⟨rfl, by simp [SV.sc]⟩, ⟨rfl, by simp [SV.sc]⟩, ⟨rfl, by simp [SV.sc]⟩, ⟨rfl, by simp [SV.sc]⟩, ⟨rfl, by simp [SV.sc]⟩, ⟨rfl, trivial⟩, trivial⟩ ?_ (fun q hq => by cases hq) ih
              unfold rrM
              rw [e1, e2]
              refine ⟨⟨rfl, by omega, trivial⟩, ⟨rfl, by omega, by simp [SObj.sc, Prm.cells, SV.scs, SV.sc]⟩, ⟨rfl, by omega, by simp [SObj.sc, Ste.cells, SV.scs, SV.sc]⟩, ⟨rfl, by omega, by simp [SObj.sc, SV.scs, SV.sc]⟩, ⟨?_, by omega, scs_i _ _⟩, trivial⟩
              refine Eq.trans (b := some (SObj.row 1 ((routs p s 0 (xs.take i)).length + 1) ((routs p s 0 (xs.take i)).map (fun x => .v (.int .i64 x)) ++ [.v (.int .i64 (i : Int))]) 3)) rfl ?_
              simp only [SObj.ren, rens_i]
              simp only [List.map_append, List.length_append]
              rfl
            | false =>
              have hf' : rstepB p (rsteps p s (xs.take i)) xs[i] = false := hf
              rw [hf', if_neg (by decide), List.append_nil] at e2
              conv => whnf
              rw [wrap_succ (by omega)]
              refine Run.trim 5 (T' := [(2, .slc 0 0 xs.length cap), (3, .ptr 1 0), (4, .ptr 2 0), (7, .ptr 3 0), (10, .opq 4), (11, ii ((i + 1 : Nat) : Int))]) (M' := rrM p s xs (i + 1) (.win (ints xs)))
                ⟨⟨rfl, by simp [SV.sc]⟩, ⟨rfl, by simp [SV.sc]⟩, ⟨rfl, by simp [SV.sc]⟩, ⟨rfl, by simp [SV.sc]⟩, ⟨rfl, by simp [SV.sc]⟩, ⟨rfl, trivial⟩, trivial⟩ ?_ (fun q hq => by cases hq) ih
              unfold rrM
              rw [e1, e2]
              exact ⟨⟨rfl, by omega, trivial⟩, ⟨rfl, by omega, by simp [SObj.sc, Prm.cells, SV.scs, SV.sc]⟩, ⟨rfl, by omega, by simp [SObj.sc, Ste.cells, SV.scs, SV.sc]⟩, ⟨rfl, by omega, by simp [SObj.sc, SV.scs, SV.sc]⟩, ⟨rfl, by omega, scs_i _ _⟩, trivial⟩
          · rename_i hn; have := of_decide_eq_false hn; omega
        · refine Run.of_wpK (hc _ rfl) 1000 _ ?_
          conv => whnf
          split
          · rename_i hn; have := of_decide_eq_true hn; omega
          · conv => whnf
            refine ⟨by kernel_rfl, ?_⟩
            conv => whnf
            refine ⟨fun ρ w' hW _ => ⟨(SV.opq 4).conc ρ, ?_, hW.toExt, ?_⟩⟩
            · rw [if_pos hv0, if_pos (by omega), List.take_length]; rfl
            · rw [if_pos hv0, if_pos (by omega)]
              have := hW.ownsNew (i := 4) (e := 1) rfl Nat.one_pos
              rw [concs_i, List.take_length] at this
              exact this
    · have hv0 : ¬ vd p s = 0 := by simpa using hv
      conv => whnf
      refine ⟨fun ρ w' hW _ => ⟨.slice none 0 0, ?_, hW.toExt, ?_⟩⟩
      · rw [if_neg hv0]; rfl
      · rw [if_neg hv0]; exact World.ownsRow_nil _ _ _ _
end Go.Proofs.Ytoipnojibkjjnaa
