/-
  Laws of the small executor, and walks of the functions that the statement reaches (part 9 of several, put together out of smaller texts).
  The conditions stand with each law.
-/
import Derived.Test.YtnnlpdgnlccbjaaMWh
namespace Go.Proofs.Ytnnlpdgnlccbjaa
open Go.Sx
set_option maxRecDepth 100000
set_option maxHeartbeats 2000000
/-- A round at a synapse: what is left, and the marks. -/
def rdStep (S : List Syn) (pl : List Int) (r p to by_ : Int) (x : Int × List Mrk) (i : Nat) : Int × List Mrk :=
  if x.1 ≠ 0 ∧ pl.getD i (-1) = r ∧ (S.getD i syn0).to = p ∧ (x.2.getD i mrk0).w ≠ to then (W (x.1 - by_), x.2.set i { x.2.getD i mrk0 with w := W ((x.2.getD i mrk0).w + by_) }) else x
def rdY (S : List Syn) (pl : List Int) (r p to by_ : Int) (x : Int × List Mrk) (j : Nat) : Int × List Mrk := ((plIdx pl).take j).foldl (rdStep S pl r p to by_) x
def rdL (S : List Syn) (pl : List Int) (r p to by_ : Int) (x : Int × List Mrk) : Int × List Mrk := (plIdx pl).foldl (rdStep S pl r p to by_) x
theorem rdY_succ (S : List Syn) (pl : List Int) (r p to by_ : Int) (x : Int × List Mrk) {j i : Nat} (h : (plIdx pl)[j]? = some i) : rdY S pl r p to by_ x (j + 1) = rdStep S pl r p to by_ (rdY S pl r p to by_ x j) i := by
  have hj := (List.getElem?_eq_some_iff.1 h).1
  have hv := (List.getElem?_eq_some_iff.1 h).2
  unfold rdY
  rw [← List.take_append_getElem hj, List.foldl_append, hv]; rfl
theorem rdStep_len (S : List Syn) (pl : List Int) (r p to by_ : Int) (x : Int × List Mrk) (i : Nat) : (rdStep S pl r p to by_ x i).2.length = x.2.length := by
  unfold rdStep
  split
  · simp
  · rfl
theorem rdFold_len (S : List Syn) (pl : List Int) (r p to by_ : Int) : ∀ (l : List Nat) (x : Int × List Mrk), (l.foldl (rdStep S pl r p to by_) x).2.length = x.2.length
  | [], _ => rfl
  | a :: l, x => by rw [List.foldl_cons, rdFold_len S pl r p to by_ l, rdStep_len]
theorem scs_marks (S : Nat → Prop) (l : List Mrk) : SV.scs S (l.flatMap Mrk.cells) := by rw [marks_v]; exact scs_v _ _
/-- What a round looks at, and changes. -/
def rdM (C : List SV) (S : List Syn) (pl : List Int) (r p left : Int) (m : List Mrk) : List (Nat × SObj) := [(24, .cells [.ptr 0 0] 64), (25, .cells [ii left] 3), (26, .cells [ii r, ii p] 175), (0, .cells C 96), (2, .rwin 4 S.length (S.flatMap Syn.vals)), (5, .rwin 1 pl.length (ints pl)), (6, .row 4 pl.length (m.flatMap Mrk.cells) 84)]
theorem round_spec (tk : SV) (inp : Int) (rg : Nat → SV) (tt : SV) (S : List Syn) (pl : List Int) (r p left to by_ : Int) (m : List Mrk) (hsc : SV.scs (· < 24) (lcells tk inp rg tt)) (h1 : pl.length = S.length) (h2 : m.length = S.length) (hS : S.length ≤ 8192) :
    BSpec Try.prog 104 [ii to, ii by_, .ptr 24 0, .ptr 25 0, .ptr 26 0] (rdM (lcells tk inp rg tt) S pl r p left m) 27 [0, 24, 25, 26, 6] (.tup []) (rdM (lcells tk inp rg tt) S pl r p (rdL S pl r p to by_ (left, m)).1 (rdL S pl r p to by_ (left, m)).2) 27 := by
  have hc : ∀ w L' rd, (∀ p, rd = some p → p ∈ L') → Cx.ok ⟨Try.prog, tab, [], 104, Try.f104, [], w, L', rd⟩ := fun w L' rd h => ⟨tab_ok, trivial, Try.func104, mixed, h⟩
  refine BSpec.start (tab := tab) (pf := []) (cuts := []) Try.func104 rfl ⟨trivial, trivial, (show 24 < 27 by decide), (show 25 < 27 by decide), (show 26 < 27 by decide), trivial⟩ rfl fun w L0 plp hL hLB hcov => Run.of_wpK (hc w L0 none (fun _ h => by cases h)) 100 _ ?_
  conv => whnf
  refine Run.callP (vs := [.ptr 0 0]) (caps := []) synapses_spec (ent _ _ Try.func81 (by kernel_rfl) rfl) rfl rfl rfl rfl rfl rfl rfl (by decide) (by decide) trivial (fun i hi => by cases hi) (.fn 103 [.ptr 30 0])
    [(30, .cells [.ptr 0 0] 64), (29, .cells [ii by_] 3), (28, .cells [ii to] 3), (27, .pin plp), (24, .cells [.ptr 0 0] 64), (25, .cells [ii left] 3), (26, .cells [ii r, ii p] 175), (0, .cells (lcells tk inp rg tt) 96), (2, .rwin 4 S.length (S.flatMap Syn.vals)), (5, .rwin 1 pl.length (ints pl)), (6, .row 4 pl.length (m.flatMap Mrk.cells) 84)] 31 rfl rfl
    ⟨.inr ⟨24, _, rfl, rfl, rfl, rfl⟩, .inl ⟨rfl, by simp⟩, .inl ⟨rfl, by simp⟩, .inl ⟨rfl, by simp⟩, .inl ⟨rfl, by simp⟩, .inl ⟨rfl, by simp⟩, .inl ⟨rfl, by simp⟩, .inl ⟨rfl, by simp⟩, .inl ⟨rfl, by simp⟩, .inl ⟨rfl, by simp⟩, .inl ⟨rfl, by simp⟩, trivial⟩ ?_
  refine Run.of_wpK (hc w L0 none (fun _ h => by cases h)) 100 _ ?_
  conv => whnf
  refine Run.pinAll fun pl2 hcov2 => ?_
  refine Run.rangeF (T0 := [(2, .ptr 24 0), (3, .ptr 25 0), (4, .ptr 26 0), (5, .ptr 28 0), (6, .ptr 29 0)]) (caps := [.ptr 30 0]) rfl (x := .tmp 10) rfl rfl (ent _ _ Try.func103 (by kernel_rfl) rfl) hcov2 rfl (by decide)
    (fun j => [(31, .pin pl2), (30, .cells [.ptr 0 0] 64), (29, .cells [ii by_] 3), (28, .cells [ii to] 3), (27, .pin plp), (24, .cells [.ptr 0 0] 64), (25, .cells [ii (rdY S pl r p to by_ (left, m) j).1] 3), (26, .cells [ii r, ii p] 175), (0, .cells (lcells tk inp rg tt) 96), (2, .rwin 4 S.length (S.flatMap Syn.vals)), (5, .rwin 1 pl.length (ints pl)), (6, .row 4 pl.length ((rdY S pl r p to by_ (left, m) j).2.flatMap Mrk.cells) 84)]) 34
    (synXs ((envPl pl2).s 6) ((envPl pl2).o 6) pl) (by simp) ?_ ?_ (by decide) (fun _ => rfl) ?_ ?_ (SynI ((envPl pl2).ren (Sx.rs 24 30)) (lcells tk inp rg tt) pl) ?_ ?_ ?_ ?_
  · exact AllP.mem (l := [11, 12]) ⟨Nat.le_of_ble_eq_true rfl, Nat.le_of_ble_eq_true rfl, trivial⟩
  · intro v hv
    rw [synXs_map] at hv
    obtain ⟨ix, _, rfl⟩ := List.mem_map.1 hv
    rfl
  · exact AllP.mem ⟨⟨rfl, (show 24 < 31 by decide)⟩, ⟨rfl, (show 25 < 31 by decide)⟩, ⟨rfl, (show 26 < 31 by decide)⟩, ⟨rfl, (show 28 < 31 by decide)⟩, ⟨rfl, (show 29 < 31 by decide)⟩, trivial⟩
  · exact AllP.mem ⟨⟨rfl, by omega⟩, ⟨rfl, by omega⟩, ⟨rfl, by omega⟩, ⟨rfl, by omega⟩, ⟨rfl, by omega⟩, ⟨rfl, by omega⟩, ⟨rfl, by omega⟩, ⟨rfl, by omega⟩, ⟨rfl, by omega⟩, ⟨rfl, by omega⟩, ⟨rfl, by omega⟩, ⟨rfl, by omega⟩, trivial⟩
  · intro ρ w1 hW1
    have h30 := (hW1.envPl hcov2 rfl) 30 (by decide)
    have ho : ρ.o 30 = 0 := (hW1.mem 30 _ rfl).2.2.1
    have e : SV.concs ρ [.ptr 30 0] = [Value.pointer (some ⟨((envPl pl2).ren (Sx.rs 24 30)).s 24, 0, none⟩)] := by
      simp only [SV.concs, SV.conc, ho, h30.1]; rfl
    rw [e]
    exact syn_iter _ tk inp rg tt pl (SV.scs_lt (by decide) hsc) (by omega)
  · intro i L' ρ' a d w' hwid hW'
    exact SynI.of hW' 30 31 pl2 _ pl ((rdY S pl r p to by_ (left, m) i).2.flatMap Mrk.vals) hcov2 rfl (by decide) (by decide) rfl rfl rfl ⟨_, rfl, Conv.row (by decide) (marks_v _)⟩ hsc
  · intro j v hv L' l a d hwid hl hLp
    have hlid : ∀ p ∈ L', p.1 < 34 := fun p hp => by
      rcases hLp p hp with h | h | h
      · omega
      · omega
      · have := hLB p h; omega
    rw [synXs_map, List.getElem?_map] at hv
    cases hix : (plIdx pl)[j]? with
    | none => rw [hix] at hv; cases hv
    | some ix =>
    rw [hix] at hv
    obtain rfl := Option.some.inj hv
    obtain ⟨hlt, hge⟩ := plIdx_mem (List.mem_of_getElem? hix)
    refine Run.tell (T' := [(11, ii (ix : Int)), (12, .ptr 6 (ix * 4)), (2, .ptr 24 0), (3, .ptr 25 0), (4, .ptr 26 0), (5, .ptr 28 0), (6, .ptr 29 0)]) (AllP.mem ⟨⟨_, rfl, trivial, fun _ _ _ => rfl⟩, ⟨_, rfl, (show 6 < 34 by decide), fun ρ w1 hW1 => ?_⟩, ⟨_, rfl, (show 24 < 34 by decide), fun _ _ _ => rfl⟩, ⟨_, rfl, (show 25 < 34 by decide), fun _ _ _ => rfl⟩, ⟨_, rfl, (show 26 < 34 by decide), fun _ _ _ => rfl⟩, ⟨_, rfl, (show 28 < 34 by decide), fun _ _ _ => rfl⟩, ⟨_, rfl, (show 29 < 34 by decide), fun _ _ _ => rfl⟩, trivial⟩) ?_
    · have h6 := (hW1.envPl hcov2 rfl) 6 (by decide)
      simp only [SV.conc, h6.1, h6.2.1]
    have hgd : pl.getD ix (-1) = pl[ix] := by simp [List.getD_eq_getElem?_getD, hlt]
    have hSl : ix < S.length := by omega
    have hSd : S.getD ix syn0 = S[ix] := by simp [List.getD_eq_getElem?_getD, hSl]
    have hylen : (rdY S pl r p to by_ (left, m) j).2.length = S.length := by unfold rdY; rw [rdFold_len]; exact h2
    have hml : ix < (rdY S pl r p to by_ (left, m) j).2.length := by omega
    have hmd : (rdY S pl r p to by_ (left, m) j).2.getD ix mrk0 = (rdY S pl r p to by_ (left, m) j).2[ix] := by simp [List.getD_eq_getElem?_getD, hml]
    have e := rdY_succ S pl r p to by_ (left, m) hix
    unfold rdStep at e
    rw [hgd, hSd, hmd] at e
    refine Run.of_wpK (hc w L' (some (33, l)) (fun q hq => by obtain rfl := Option.some.inj hq; exact hl)) 1000 _ ?_
    conv => whnf
    refine Run.draw (hc w L' (some (33, l)) (fun q hq => by obtain rfl := Option.some.inj hq; exact hl)) 35 ?_
    rw [show upto 0 35 = upto 0 4 ++ (upto 4 6 ++ (upto 10 6 ++ (upto 16 9 ++ (upto 25 6 ++ (upto 31 3 ++ upto 34 1))))) from rfl]
    simp only [drawK_app]
    conv => whnf
    cases b1 : (rdY S pl r p to by_ (left, m) j).1 != 0
    case false =>
      have b1n : (rdY S pl r p to by_ (left, m) j).1 = 0 := by simpa using b1
      have e2 : rdY S pl r p to by_ (left, m) (j + 1) = rdY S pl r p to by_ (left, m) j := by rw [e, if_neg (fun h => h.1 b1n)]
      conv => whnf
      refine ⟨by kernel_rfl, ?_⟩
      refine Run.of_wpK (hc w L' (some (33, l)) (fun q hq => by obtain rfl := Option.some.inj hq; exact hl)) 1000 _ ?_
      conv => whnf
      refine ⟨fun ρ w' hW _ => ⟨rfl, ρ, ?_⟩⟩
      exact hW.less (r := id) ⟨AllP.mem (l := inLoop (31 + 1) a _ _ _ _ d [(31, .pin pl2), (30, .cells [.ptr 0 0] 64), (29, .cells [ii by_] 3), (28, .cells [ii to] 3), (27, .pin plp), (24, .cells [.ptr 0 0] 64), (25, .cells [ii (rdY S pl r p to by_ (left, m) (j + 1)).1] 3), (26, .cells [ii r, ii p] 175), (0, .cells (lcells tk inp rg tt) 96), (2, .rwin 4 S.length (S.flatMap Syn.vals)), (5, .rwin 1 pl.length (ints pl)), (6, .row 4 pl.length ((rdY S pl r p to by_ (left, m) (j + 1)).2.flatMap Mrk.cells) 84)]) ⟨⟨rfl, by omega, trivial⟩, ⟨rfl, by omega, trivial⟩, ⟨by rw [oren_id]; rfl, by omega, fun p hp => Nat.lt_of_lt_of_le (hcov2.1 p hp) (by decide)⟩, ⟨by rw [oren_id]; rfl, by omega, (show 0 < 34 by decide), trivial⟩, ⟨by rw [oren_id]; rfl, by omega, by simp [SObj.sc, SV.scs, SV.sc]⟩, ⟨by rw [oren_id]; rfl, by omega, by simp [SObj.sc, SV.scs, SV.sc]⟩, ⟨by rw [oren_id]; rfl, by omega, fun p hp => Nat.lt_of_lt_of_le (hcov.1 p hp) (by decide)⟩, ⟨by rw [oren_id]; rfl, by omega, (show 0 < 34 by decide), trivial⟩, ⟨by rw [oren_id, e2]; rfl, by omega, trivial, trivial⟩, ⟨by rw [oren_id]; rfl, by omega, by simp [SObj.sc, SV.scs, SV.sc]⟩, ⟨by rw [oren_id]; rfl, by omega, SV.scs_lt (by decide) hsc⟩, ⟨rfl, by omega, trivial⟩, ⟨rfl, by omega, trivial⟩, ⟨by rw [oren_id, e2]; rfl, by omega, scs_marks _ _⟩, trivial⟩, fun _ _ _ _ h => h, fun q hq => ⟨rfl, hlid q hq⟩⟩
    have b1' : (rdY S pl r p to by_ (left, m) j).1 ≠ 0 := by simpa using b1
    conv => whnf
    refine ⟨by omega, ?_⟩
    conv => whnf
    rw [opF_load1 ix rfl rfl rfl rfl (by rw [idx_nat, Nat.mul_one]) (ints_get hlt)]
    conv => whnf
    cases b2 : pl[ix] == r
    case false =>
      have b2n : pl[ix] ≠ r := by simpa using b2
      have e2 : rdY S pl r p to by_ (left, m) (j + 1) = rdY S pl r p to by_ (left, m) j := by rw [e, if_neg (fun h => b2n h.2.1)]
      conv => whnf
      refine ⟨by kernel_rfl, ?_⟩
      refine Run.of_wpK (hc w L' (some (33, l)) (fun q hq => by obtain rfl := Option.some.inj hq; exact hl)) 1000 _ ?_
      conv => whnf
      refine ⟨fun ρ w' hW _ => ⟨rfl, ρ, ?_⟩⟩
      exact hW.less (r := id) ⟨AllP.mem (l := inLoop (31 + 1) a _ _ _ _ d [(31, .pin pl2), (30, .cells [.ptr 0 0] 64), (29, .cells [ii by_] 3), (28, .cells [ii to] 3), (27, .pin plp), (24, .cells [.ptr 0 0] 64), (25, .cells [ii (rdY S pl r p to by_ (left, m) (j + 1)).1] 3), (26, .cells [ii r, ii p] 175), (0, .cells (lcells tk inp rg tt) 96), (2, .rwin 4 S.length (S.flatMap Syn.vals)), (5, .rwin 1 pl.length (ints pl)), (6, .row 4 pl.length ((rdY S pl r p to by_ (left, m) (j + 1)).2.flatMap Mrk.cells) 84)]) ⟨⟨rfl, by omega, trivial⟩, ⟨rfl, by omega, trivial⟩, ⟨by rw [oren_id]; rfl, by omega, fun p hp => Nat.lt_of_lt_of_le (hcov2.1 p hp) (by decide)⟩, ⟨by rw [oren_id]; rfl, by omega, (show 0 < 34 by decide), trivial⟩, ⟨by rw [oren_id]; rfl, by omega, by simp [SObj.sc, SV.scs, SV.sc]⟩, ⟨by rw [oren_id]; rfl, by omega, by simp [SObj.sc, SV.scs, SV.sc]⟩, ⟨by rw [oren_id]; rfl, by omega, fun p hp => Nat.lt_of_lt_of_le (hcov.1 p hp) (by decide)⟩, ⟨by rw [oren_id]; rfl, by omega, (show 0 < 34 by decide), trivial⟩, ⟨by rw [oren_id, e2]; rfl, by omega, trivial, trivial⟩, ⟨by rw [oren_id]; rfl, by omega, by simp [SObj.sc, SV.scs, SV.sc]⟩, ⟨by rw [oren_id]; rfl, by omega, SV.scs_lt (by decide) hsc⟩, ⟨rfl, by omega, trivial⟩, ⟨rfl, by omega, trivial⟩, ⟨by rw [oren_id, e2]; rfl, by omega, scs_marks _ _⟩, trivial⟩, fun _ _ _ _ h => h, fun q hq => ⟨rfl, hlid q hq⟩⟩
    have b2' : pl[ix] = r := by simpa using b2
    conv => whnf
    refine ⟨by omega, ?_⟩
    conv => whnf
    rw [opF_loadWf (f := Syn.vals) (l := S) (c := .int .i64 S[ix].to) ix 1 rfl rfl rfl rfl Syn.vlen (by rw [idx_nat]) hSl (by decide) rfl]
    conv => whnf
    cases b3 : S[ix].to == p
    case false =>
      have b3n : S[ix].to ≠ p := by simpa using b3
      have e2 : rdY S pl r p to by_ (left, m) (j + 1) = rdY S pl r p to by_ (left, m) j := by rw [e, if_neg (fun h => b3n h.2.2.1)]
      conv => whnf
      refine ⟨by kernel_rfl, ?_⟩
      refine Run.of_wpK (hc w L' (some (33, l)) (fun q hq => by obtain rfl := Option.some.inj hq; exact hl)) 1000 _ ?_
      conv => whnf
      refine ⟨fun ρ w' hW _ => ⟨rfl, ρ, ?_⟩⟩
      exact hW.less (r := id) ⟨AllP.mem (l := inLoop (31 + 1) a _ _ _ _ d [(31, .pin pl2), (30, .cells [.ptr 0 0] 64), (29, .cells [ii by_] 3), (28, .cells [ii to] 3), (27, .pin plp), (24, .cells [.ptr 0 0] 64), (25, .cells [ii (rdY S pl r p to by_ (left, m) (j + 1)).1] 3), (26, .cells [ii r, ii p] 175), (0, .cells (lcells tk inp rg tt) 96), (2, .rwin 4 S.length (S.flatMap Syn.vals)), (5, .rwin 1 pl.length (ints pl)), (6, .row 4 pl.length ((rdY S pl r p to by_ (left, m) (j + 1)).2.flatMap Mrk.cells) 84)]) ⟨⟨rfl, by omega, trivial⟩, ⟨rfl, by omega, trivial⟩, ⟨by rw [oren_id]; rfl, by omega, fun p hp => Nat.lt_of_lt_of_le (hcov2.1 p hp) (by decide)⟩, ⟨by rw [oren_id]; rfl, by omega, (show 0 < 34 by decide), trivial⟩, ⟨by rw [oren_id]; rfl, by omega, by simp [SObj.sc, SV.scs, SV.sc]⟩, ⟨by rw [oren_id]; rfl, by omega, by simp [SObj.sc, SV.scs, SV.sc]⟩, ⟨by rw [oren_id]; rfl, by omega, fun p hp => Nat.lt_of_lt_of_le (hcov.1 p hp) (by decide)⟩, ⟨by rw [oren_id]; rfl, by omega, (show 0 < 34 by decide), trivial⟩, ⟨by rw [oren_id, e2]; rfl, by omega, trivial, trivial⟩, ⟨by rw [oren_id]; rfl, by omega, by simp [SObj.sc, SV.scs, SV.sc]⟩, ⟨by rw [oren_id]; rfl, by omega, SV.scs_lt (by decide) hsc⟩, ⟨rfl, by omega, trivial⟩, ⟨rfl, by omega, trivial⟩, ⟨by rw [oren_id, e2]; rfl, by omega, scs_marks _ _⟩, trivial⟩, fun _ _ _ _ h => h, fun q hq => ⟨rfl, hlid q hq⟩⟩
    have b3' : S[ix].to = p := by simpa using b3
    conv => whnf
    rw [opF_loadRf (f := Mrk.cells) (l := (rdY S pl r p to by_ (left, m) j).2) (c := ii (rdY S pl r p to by_ (left, m) j).2[ix].w) ix 0 rfl rfl rfl rfl Mrk.clen rfl hml (by decide) rfl]
    conv => whnf
    refine ⟨by kernel_rfl, ?_⟩
    refine Run.of_wpK (hc w L' (some (33, l)) (fun q hq => by obtain rfl := Option.some.inj hq; exact hl)) 1000 _ ?_
    conv => whnf
    cases b4 : (rdY S pl r p to by_ (left, m) j).2[ix].w != to
    case false =>
      have b4n : (rdY S pl r p to by_ (left, m) j).2[ix].w = to := by simpa using b4
      have e2 : rdY S pl r p to by_ (left, m) (j + 1) = rdY S pl r p to by_ (left, m) j := by rw [e, if_neg (fun h => h.2.2.2 b4n)]
      conv => whnf
      refine ⟨fun ρ w' hW _ => ⟨rfl, ρ, ?_⟩⟩
      exact hW.less (r := id) ⟨AllP.mem (l := inLoop (31 + 1) a _ _ _ _ d [(31, .pin pl2), (30, .cells [.ptr 0 0] 64), (29, .cells [ii by_] 3), (28, .cells [ii to] 3), (27, .pin plp), (24, .cells [.ptr 0 0] 64), (25, .cells [ii (rdY S pl r p to by_ (left, m) (j + 1)).1] 3), (26, .cells [ii r, ii p] 175), (0, .cells (lcells tk inp rg tt) 96), (2, .rwin 4 S.length (S.flatMap Syn.vals)), (5, .rwin 1 pl.length (ints pl)), (6, .row 4 pl.length ((rdY S pl r p to by_ (left, m) (j + 1)).2.flatMap Mrk.cells) 84)]) ⟨⟨rfl, by omega, trivial⟩, ⟨rfl, by omega, trivial⟩, ⟨by rw [oren_id]; rfl, by omega, fun p hp => Nat.lt_of_lt_of_le (hcov2.1 p hp) (by decide)⟩, ⟨by rw [oren_id]; rfl, by omega, (show 0 < 34 by decide), trivial⟩, ⟨by rw [oren_id]; rfl, by omega, by simp [SObj.sc, SV.scs, SV.sc]⟩, ⟨by rw [oren_id]; rfl, by omega, by simp [SObj.sc, SV.scs, SV.sc]⟩, ⟨by rw [oren_id]; rfl, by omega, fun p hp => Nat.lt_of_lt_of_le (hcov.1 p hp) (by decide)⟩, ⟨by rw [oren_id]; rfl, by omega, (show 0 < 34 by decide), trivial⟩, ⟨by rw [oren_id, e2]; rfl, by omega, trivial, trivial⟩, ⟨by rw [oren_id]; rfl, by omega, by simp [SObj.sc, SV.scs, SV.sc]⟩, ⟨by rw [oren_id]; rfl, by omega, SV.scs_lt (by decide) hsc⟩, ⟨rfl, by omega, trivial⟩, ⟨rfl, by omega, trivial⟩, ⟨by rw [oren_id, e2]; rfl, by omega, scs_marks _ _⟩, trivial⟩, fun _ _ _ _ h => h, fun q hq => ⟨rfl, hlid q hq⟩⟩
    have b4' : (rdY S pl r p to by_ (left, m) j).2[ix].w ≠ to := by simpa using b4
    rw [if_pos ⟨b1', b2', b3', b4'⟩] at e
    conv => whnf
    refine Run.draw (hc w L' (some (33, l)) (fun q hq => by obtain rfl := Option.some.inj hq; exact hl)) 5 ?_
    rw [show upto 0 5 = upto 0 4 ++ upto 4 1 from rfl]
    simp only [drawK_app]
    conv => whnf
    rw [opF_loadRf (f := Mrk.cells) (l := (rdY S pl r p to by_ (left, m) j).2) (c := ii (rdY S pl r p to by_ (left, m) j).2[ix].w) ix 0 rfl rfl rfl rfl Mrk.clen rfl hml (by decide) rfl]
    conv => whnf
    refine ⟨by kernel_rfl, ?_⟩
    refine Run.of_wpK (hc w L' (some (33, l)) (fun q hq => by obtain rfl := Option.some.inj hq; exact hl)) 1000 _ ?_
    conv => whnf
    rw [opF_storeRf (f := Mrk.cells) (l := (rdY S pl r p to by_ (left, m) j).2) ix 0 { (rdY S pl r p to by_ (left, m) j).2[ix] with w := W ((rdY S pl r p to by_ (left, m) j).2[ix].w + by_) } rfl rfl rfl rfl rfl Mrk.clen rfl hml (by decide) rfl rfl rfl]
    conv => whnf
    have e4 : rdY S pl r p to by_ (left, m) (j + 1) = (W ((rdY S pl r p to by_ (left, m) j).1 - by_), (rdY S pl r p to by_ (left, m) j).2.set ix { (rdY S pl r p to by_ (left, m) j).2[ix] with w := W ((rdY S pl r p to by_ (left, m) j).2[ix].w + by_) }) := e
    refine ⟨fun ρ w' hW _ => ⟨rfl, ρ, ?_⟩⟩
    exact hW.less (r := id) ⟨AllP.mem (l := inLoop (31 + 1) a _ _ _ _ d [(31, .pin pl2), (30, .cells [.ptr 0 0] 64), (29, .cells [ii by_] 3), (28, .cells [ii to] 3), (27, .pin plp), (24, .cells [.ptr 0 0] 64), (25, .cells [ii (rdY S pl r p to by_ (left, m) (j + 1)).1] 3), (26, .cells [ii r, ii p] 175), (0, .cells (lcells tk inp rg tt) 96), (2, .rwin 4 S.length (S.flatMap Syn.vals)), (5, .rwin 1 pl.length (ints pl)), (6, .row 4 pl.length ((rdY S pl r p to by_ (left, m) (j + 1)).2.flatMap Mrk.cells) 84)]) ⟨⟨rfl, by omega, trivial⟩, ⟨rfl, by omega, trivial⟩, ⟨by rw [oren_id]; rfl, by omega, fun p hp => Nat.lt_of_lt_of_le (hcov2.1 p hp) (by decide)⟩, ⟨by rw [oren_id]; rfl, by omega, (show 0 < 34 by decide), trivial⟩, ⟨by rw [oren_id]; rfl, by omega, by simp [SObj.sc, SV.scs, SV.sc]⟩, ⟨by rw [oren_id]; rfl, by omega, by simp [SObj.sc, SV.scs, SV.sc]⟩, ⟨by rw [oren_id]; rfl, by omega, fun p hp => Nat.lt_of_lt_of_le (hcov.1 p hp) (by decide)⟩, ⟨by rw [oren_id]; rfl, by omega, (show 0 < 34 by decide), trivial⟩, ⟨by rw [oren_id, e4]; rfl, by omega, trivial, trivial⟩, ⟨by rw [oren_id]; rfl, by omega, by simp [SObj.sc, SV.scs, SV.sc]⟩, ⟨by rw [oren_id]; rfl, by omega, SV.scs_lt (by decide) hsc⟩, ⟨rfl, by omega, trivial⟩, ⟨rfl, by omega, trivial⟩, ⟨by rw [oren_id, e4]; rfl, by omega, scs_marks _ _⟩, trivial⟩, fun _ _ _ _ h => h, fun q hq => ⟨rfl, hlid q hq⟩⟩
  · intro L' a d hwid hd hLp
    refine Run.of_wpK (hc w L' none (fun q hq => by cases hq)) 1000 _ ?_
    conv => whnf
    refine Run.retD (hc w L' none (fun q hq => by cases hq)) rfl (31 + 1) d hd rfl (.inl rfl) rfl ?_
    have hall : rdY S pl r p to by_ (left, m) (synXs ((envPl pl2).s 6) ((envPl pl2).o 6) pl).length = rdL S pl r p to by_ (left, m) := by
      unfold rdY rdL
      rw [synXs_map, List.length_map, List.take_length]
    have fix : ∀ {cs : List SV}, SV.scs (· < 27) cs → SV.rens (sh 27 28) cs = cs := fun h => rens_fix (fun i hi => sh_fix i hi) _ h
    refine SpecR.introN 28 (by decide) hwid hLB (by decide) hcov rfl rfl trivial ⟨⟨rfl, by omega, (show 0 < 27 by decide), trivial⟩, ⟨?_, by omega, trivial, trivial⟩, ⟨rfl, by omega, trivial, trivial, trivial⟩, ⟨?_, by omega, SV.scs_lt (by decide) hsc⟩, ⟨rfl, by omega, trivial⟩, ⟨rfl, by omega, trivial⟩, ⟨?_, by omega, scs_marks _ _⟩, trivial⟩
    · rw [← hall]; rfl
    · show some (SObj.cells (lcells tk inp rg tt) 96) = some (.cells (SV.rens _ (lcells tk inp rg tt)) 96)
      rw [fix (SV.scs_lt (by decide) hsc)]
    · rw [← hall]
      show some (SObj.row 4 pl.length _ 84) = some (.row 4 pl.length (SV.rens _ _) 84)
      rw [fix (scs_marks _ _)]
end Go.Proofs.Ytnnlpdgnlccbjaa
