/-
  Laws of the small executor, and walks of the functions that the statement reaches (part 9 of several, put together out of smaller texts).
  The conditions stand with each law.
-/
import Derived.Test.YtnnlpdgnlccbjaaMCh
namespace Go.Proofs.Ytnnlpdgnlccbjaa
open Go.Sx
set_option maxRecDepth 100000
def ival : Value → Int
  | .int _ n => n
  | _ => 0
def kiv (l : List (Key × Value)) (k : Key) : Int := ival ((kget l k).getD (.int .i64 0))
def KInt (l : List (Key × Value)) : Prop := ∀ x ∈ l, ∃ n, x.2 = .int .i64 n
theorem kget_mem : ∀ {l : List (Key × Value)} {k : Key} {v : Value}, kget l k = some v → (k, v) ∈ l
  | [], k, v, h => by cases h
  | (a, u) :: l, k, v, h => by
    unfold kget at h
    split at h
    · rename_i e; obtain rfl := Option.some.inj h; subst e; simp
    · exact List.mem_cons_of_mem _ (kget_mem h)
theorem kint_get {l : List (Key × Value)} (h : KInt l) (k : Key) : (kget l k).getD (.int .i64 0) = .int .i64 (kiv l k) := by
  unfold kiv
  cases hg : kget l k with
  | none => rfl
  | some v =>
    obtain ⟨n, hn⟩ := h _ (kget_mem hg)
    simp only at hn
    subst hn; rfl
theorem kput_mem : ∀ {l : List (Key × Value)} {k : Key} {v : Value} {x : Key × Value}, x ∈ kput l k v → x.2 = v ∨ x ∈ l
  | [], k, v, x, h => by simp [kput] at h; subst h; exact .inl rfl
  | (a, u) :: l, k, v, x, h => by
    unfold kput at h
    split at h
    · rcases List.mem_cons.1 h with rfl | h
      · exact .inl rfl
      · exact .inr (List.mem_cons_of_mem _ h)
    · rcases List.mem_cons.1 h with rfl | h
      · exact .inr (List.mem_cons_self ..)
      · rcases kput_mem h with h | h
        · exact .inl h
        · exact .inr (List.mem_cons_of_mem _ h)
theorem KInt.put {l : List (Key × Value)} (h : KInt l) (k : Key) (n : Int) : KInt (kput l k (.int .i64 n)) := fun x hx => by
  rcases kput_mem hx with h1 | h1
  · exact ⟨n, h1⟩
  · exact h x h1
def plIdx (pl : List Int) : List Nat := (List.range pl.length).filter fun i => decide (0 ≤ pl.getD i (-1))
theorem filterMap_if {α β : Type} (p : α → Prop) [DecidablePred p] (f : α → β) : ∀ (l : List α), (l.filterMap fun i => if p i then some (f i) else none) = (l.filter fun i => decide (p i)).map f
  | [] => rfl
  | a :: l => by
    rw [List.filterMap_cons, List.filter_cons]
    by_cases h : p a
    · simp only [if_pos h, decide_eq_true h, if_true, List.map_cons, filterMap_if p f l]
    · simp only [if_neg h, decide_eq_false h, Bool.false_eq_true, if_false, filterMap_if p f l]
theorem synXs_map (b o : Nat) (pl : List Int) : synXs b o pl = (plIdx pl).map fun (i : Nat) => [Value.int .i64 (i : Int), .pointer (some ⟨b, o + i * 4, none⟩)] := filterMap_if _ _ _
theorem plIdx_mem {pl : List Int} {i : Nat} (h : i ∈ plIdx pl) : ∃ hi : i < pl.length, 0 ≤ pl[i] := by
  obtain ⟨h1, h2⟩ := List.mem_filter.1 h
  have h1 := List.mem_range.1 h1
  refine ⟨h1, ?_⟩
  have := of_decide_eq_true h2
  simpa [List.getD_eq_getElem?_getD, h1] using this
def rul0 : Rul := ⟨0, 0, 0, 0, 0, 0, 0, 0, 0, false⟩
def syn0 : Syn := ⟨0, 0, 0, 0⟩
def mrk0 : Mrk := ⟨0, 0, 0, 0⟩
/-- The sums behind a further synapse. -/
def sumStep (S : List Syn) (rs : List Rul) (pl : List Int) (m : List Mrk) (acc : List (Key × Value)) (i : Nat) : List (Key × Value) :=
  if (rs.getD (pl.getD i (-1)).toNat rul0).sum = true then kput acc (.p (pl.getD i (-1)) (S.getD i syn0).to) (.int .i64 (W (kiv acc (.p (pl.getD i (-1)) (S.getD i syn0).to) + (m.getD i mrk0).w))) else acc
def sumsY (S : List Syn) (rs : List Rul) (pl : List Int) (m : List Mrk) (j : Nat) : List (Key × Value) := ((plIdx pl).take j).foldl (sumStep S rs pl m) []
def sumsL (S : List Syn) (rs : List Rul) (pl : List Int) (m : List Mrk) : List (Key × Value) := (plIdx pl).foldl (sumStep S rs pl m) []
theorem sumsY_succ (S : List Syn) (rs : List Rul) (pl : List Int) (m : List Mrk) {j i : Nat} (h : (plIdx pl)[j]? = some i) : sumsY S rs pl m (j + 1) = sumStep S rs pl m (sumsY S rs pl m j) i := by
  have hj := (List.getElem?_eq_some_iff.1 h).1
  have hv := (List.getElem?_eq_some_iff.1 h).2
  unfold sumsY
  rw [← List.take_append_getElem hj, List.foldl_append, hv]; rfl
theorem sumStep_int {S : List Syn} {rs : List Rul} {pl : List Int} {m : List Mrk} {acc : List (Key × Value)} {i : Nat} (h : KInt acc) : KInt (sumStep S rs pl m acc i) := by
  unfold sumStep
  split
  · exact h.put _ _
  · exact h
theorem sumsY_int (S : List Syn) (rs : List Rul) (pl : List Int) (m : List Mrk) : ∀ j, KInt (sumsY S rs pl m j) := by
  have : ∀ (l : List Nat) (acc : List (Key × Value)), KInt acc → KInt (l.foldl (sumStep S rs pl m) acc) := by
    intro l
    induction l with
    | nil => intro acc h; exact h
    | cons a l ih => intro acc h; exact ih _ (sumStep_int h)
  exact fun j => this _ _ (fun x hx => by cases hx)
theorem synapses_spec : BSpec Try.prog 81 [.ptr 0 0] [] 24 [] (.fn 103 [.ptr 24 0]) [(24, .cells [.ptr 0 0] 64)] 25 := by
  have hc : ∀ w L', Cx.ok ⟨Try.prog, tab, [], 81, Try.f81, [], w, L', none⟩ := fun w L' => ⟨tab_ok, trivial, Try.func81, mixed, fun _ h => by cases h⟩
  refine BSpec.start (tab := tab) (pf := []) (cuts := []) Try.func81 rfl ⟨(show 0 < 24 by decide), trivial⟩ rfl fun w L' pl hL hLB hcov => Run.of_wpK (hc w L') 100 _ ?_
  conv => whnf
  exact SpecR.intro 25 (by decide) hLB (by decide) hcov rfl rfl ⟨(show 24 < 25 by decide), trivial⟩ ⟨⟨rfl, (show 24 < 25 by decide), ⟨(show 0 < 25 by decide), trivial⟩⟩, trivial⟩
theorem rs_fix {a b i : Nat} (h : i < a) : rs a b i = i := by unfold rs; rw [if_neg (by omega)]
/-- What the iterator needs, out of what is told. -/
theorem SynI.of {w0 w : World} {L : List (Nat × Nat)} {ρ : Env} {M : List (Nat × SObj)} {n : Nat} (hW : WI w0 L ρ (Sx.look M) (· < n) w) (kb q : Nat) (pl2 : List (Nat × Nat × Nat × (Option Addr × Nat × Nat))) (C : List SV) (pl : List Int) (vs : List Value) (hcov : Covers q pl2) (hq : Sx.look M q = some (.pin pl2)) (hkb : kb < q) (h24 : 24 < kb)
    (m24 : Sx.look M kb = some (.cells [.ptr 0 0] 64)) (m0 : Sx.look M 0 = some (.cells C 96)) (m5 : Sx.look M 5 = some (.rwin 1 pl.length (ints pl))) (m6 : ∃ o, Sx.look M 6 = some o ∧ Conv o (.rwin 4 pl.length vs)) (hC : SV.scs (· < 24) C) : SynI ((envPl pl2).ren (rs 24 kb)) C pl w := by
  refine ⟨ρ.ren (rs 24 kb), [(0, ρ.s 0), (24, ρ.s kb)], vs, ?_, by simp, fun i hi => ?_⟩
  · refine hW.again (WI.ext_refl w) (rs 24 kb) _ (itM C pl vs) 25 (fun p hp => ?_) (fun x hx => ?_) (fun x hx y hy h => ?_)
    · simp only [List.mem_cons, List.not_mem_nil, or_false] at hp
      rcases hp with rfl | rfl
      · exact ⟨by omega, rfl, ⟨(0, .cells C 96), by simp [itM], rfl⟩, _, m0, trivial⟩
      · exact ⟨by omega, rfl, ⟨(24, .cells [.ptr 0 0] 64), by simp [itM], rfl⟩, _, m24, trivial⟩
    · simp only [itM, List.mem_cons, List.not_mem_nil, or_false] at hx
      rcases hx with rfl | rfl | rfl | rfl
      · exact ⟨by omega, ⟨(show 0 < 25 by decide), trivial⟩, fun _ => ⟨_, by simp; exact .inr rfl, rfl⟩, _, m24, .inl rfl, by simp [SObj.away], fun h => by cases h⟩
      · exact ⟨by omega, SV.scs_lt (by decide) hC, fun _ => ⟨_, by simp; exact .inl rfl, rfl⟩, _, m0, .inl (by simp only [SObj.ren]; rw [rens_fix (fun i hi => rs_fix hi) C hC]), by simp [SObj.away], fun h => by cases h⟩
      · exact ⟨by omega, trivial, fun h => h.elim, _, m5, .inl rfl, by simp [SObj.away], fun _ p hp => by simp at hp; rcases hp with rfl | rfl <;> simp⟩
      · obtain ⟨o, ho, hco⟩ := m6
        exact ⟨by omega, trivial, fun h => h.elim, o, ho, hco, by cases o <;> simp [SObj.away], fun _ p hp => by simp at hp; rcases hp with rfl | rfl <;> simp⟩
    · have hx : x.1 = 24 ∨ x.1 < 24 := by
        simp only [itM, List.mem_cons, List.not_mem_nil, or_false] at hx
        rcases hx with rfl | rfl | rfl | rfl <;> simp
      have hy : y.1 = 24 ∨ y.1 < 24 := by
        simp only [itM, List.mem_cons, List.not_mem_nil, or_false] at hy
        rcases hy with rfl | rfl | rfl | rfl <;> simp
      unfold rs
      split <;> split <;> omega
  · have hag := hW.envPl hcov hq
    have hi : i < 25 := hi
    have hlt : rs 24 kb i < q := by unfold rs; split <;> omega
    exact hag _ hlt
/-- What 'sums' looks at. -/
def sumM (C : List SV) (S : List Syn) (rs : List Rul) (pl : List Int) (m : List Mrk) : List (Nat × SObj) := [(0, .cells C 96), (2, .rwin 4 S.length (S.flatMap Syn.vals)), (4, .rwin 10 rs.length (rs.flatMap Rul.vals)), (5, .rwin 1 pl.length (ints pl)), (6, .rwin 4 m.length (m.flatMap Mrk.vals))]
theorem sums_spec (tk : SV) (inp : Int) (rg : Nat → SV) (tt : SV) (S : List Syn) (rs : List Rul) (pl : List Int) (m : List Mrk) (hsc : SV.scs (· < 24) (lcells tk inp rg tt)) (h1 : pl.length = S.length) (h2 : m.length = S.length) (h3 : ∀ i (h : i < pl.length), pl[i] < (rs.length : Int)) (hS : S.length ≤ 8192) :
    BSpec Try.prog 66 [.ptr 0 0] (sumM (lcells tk inp rg tt) S rs pl m) 24 [0] (.mp 24) ((24, .kmap true true (sumsL S rs pl m)) :: sumM (lcells tk inp rg tt) S rs pl m) 25 := by
  have hc : ∀ w L' rd, (∀ p, rd = some p → p ∈ L') → Cx.ok ⟨Try.prog, tab, [], 66, Try.f66, [], w, L', rd⟩ := fun w L' rd h => ⟨tab_ok, trivial, Try.func66, mixed, h⟩
  refine BSpec.start (tab := tab) (pf := []) (cuts := []) Try.func66 rfl ⟨(show 0 < 24 by decide), trivial⟩ rfl fun w L0 plp hL hLB hcov => Run.of_wpK (hc w L0 none (fun _ h => by cases h)) 100 _ ?_
  conv => whnf
  refine Run.callP (vs := [.ptr 0 0]) (caps := []) synapses_spec (ent _ _ Try.func81 (by kernel_rfl) rfl) rfl rfl rfl rfl rfl rfl rfl (by decide) (by decide) trivial (fun i hi => by cases hi) (.fn 103 [.ptr 28 0])
    [(28, .cells [.ptr 0 0] 64), (27, .cells [.mp 26] 94), (26, .kmap true true []), (25, .cells [.ptr 0 0] 64), (24, .pin plp), (0, .cells (lcells tk inp rg tt) 96), (2, .rwin 4 S.length (S.flatMap Syn.vals)), (4, .rwin 10 rs.length (rs.flatMap Rul.vals)), (5, .rwin 1 pl.length (ints pl)), (6, .rwin 4 m.length (m.flatMap Mrk.vals))] 29 rfl rfl
    ⟨.inr ⟨24, _, rfl, rfl, rfl, rfl⟩, .inl ⟨rfl, by simp⟩, .inl ⟨rfl, by simp⟩, .inl ⟨rfl, by simp⟩, .inl ⟨rfl, by simp⟩, .inl ⟨rfl, by simp⟩, .inl ⟨rfl, by simp⟩, .inl ⟨rfl, by simp⟩, .inl ⟨rfl, by simp⟩, .inl ⟨rfl, by simp⟩, trivial⟩ ?_
  refine Run.of_wpK (hc w L0 none (fun _ h => by cases h)) 100 _ ?_
  conv => whnf
  refine Run.pinAll fun pl2 hcov2 => ?_
  refine Run.rangeF (T0 := [(1, .ptr 25 0), (2, .v (.map none)), (3, .ptr 27 0)]) (caps := [.ptr 28 0]) rfl (x := .tmp 9) rfl rfl (ent _ _ Try.func103 (by kernel_rfl) rfl) hcov2 rfl (by decide)
    (fun j => [(29, .pin pl2), (28, .cells [.ptr 0 0] 64), (27, .cells [.mp 26] 94), (26, .kmap true true (sumsY S rs pl m j)), (25, .cells [.ptr 0 0] 64), (24, .pin plp), (0, .cells (lcells tk inp rg tt) 96), (2, .rwin 4 S.length (S.flatMap Syn.vals)), (4, .rwin 10 rs.length (rs.flatMap Rul.vals)), (5, .rwin 1 pl.length (ints pl)), (6, .rwin 4 m.length (m.flatMap Mrk.vals))]) 32
    (synXs ((envPl pl2).s 6) ((envPl pl2).o 6) pl) (by simp) ?_ ?_ (by decide) (fun _ => rfl) ?_ ?_ (SynI ((envPl pl2).ren (Sx.rs 24 28)) (lcells tk inp rg tt) pl) ?_ ?_ ?_ ?_
  · exact AllP.mem (l := [10, 11]) ⟨Nat.le_of_ble_eq_true rfl, Nat.le_of_ble_eq_true rfl, trivial⟩
  · intro v hv
    rw [synXs_map] at hv
    obtain ⟨ix, _, rfl⟩ := List.mem_map.1 hv
    rfl
  · exact AllP.mem ⟨⟨rfl, (show 25 < 29 by decide)⟩, ⟨rfl, trivial⟩, ⟨rfl, (show 27 < 29 by decide)⟩, trivial⟩
  · exact AllP.mem ⟨⟨rfl, by omega⟩, ⟨rfl, by omega⟩, ⟨rfl, by omega⟩, ⟨rfl, by omega⟩, ⟨rfl, by omega⟩, ⟨rfl, by omega⟩, ⟨rfl, by omega⟩, ⟨rfl, by omega⟩, ⟨rfl, by omega⟩, ⟨rfl, by omega⟩, ⟨rfl, by omega⟩, trivial⟩
  · intro ρ w1 hW1
    have h28 := (hW1.envPl hcov2 rfl) 28 (by decide)
    have ho : ρ.o 28 = 0 := (hW1.mem 28 _ rfl).2.2.1
    have e : SV.concs ρ [.ptr 28 0] = [Value.pointer (some ⟨((envPl pl2).ren (Sx.rs 24 28)).s 24, 0, none⟩)] := by
      simp only [SV.concs, SV.conc, ho, h28.1]; rfl
    rw [e]
    exact syn_iter _ tk inp rg tt pl (SV.scs_lt (by decide) hsc) (by omega)
  · intro i L' ρ' a d w' hwid hW'
    exact SynI.of hW' 28 29 pl2 _ pl (m.flatMap Mrk.vals) hcov2 rfl (by decide) (by decide) rfl rfl rfl ⟨_, rfl, by rw [h2, h1]; exact Conv.refl _⟩ hsc
  · intro j v hv L' l a d hwid hl hLp
    have hlid : ∀ p ∈ L', p.1 < 32 := fun p hp => by
      rcases hLp p hp with h | h | h
      · omega
      · omega
      · have := hLB p h; omega
    rw [synXs_map, List.getElem?_map] at hv
    cases hix : (plIdx pl)[j]? with
    | none => rw [hix] at hv; cases hv
    | some ix =>
    rw [hix] at hv
    obtain rfl := Option.some.inj hv
    obtain ⟨hlt, hge⟩ := plIdx_mem (List.mem_of_getElem? hix)
    have hk : pl[ix].toNat < rs.length := by have := h3 ix hlt; omega
    refine Run.tell (T' := [(10, ii (ix : Int)), (11, .ptr 6 (ix * 4)), (1, .ptr 25 0), (2, .v (.map none)), (3, .ptr 27 0)]) (AllP.mem ⟨⟨_, rfl, trivial, fun _ _ _ => rfl⟩, ⟨_, rfl, (show 6 < 32 by decide), fun ρ w1 hW1 => ?_⟩, ⟨_, rfl, (show 25 < 32 by decide), fun _ _ _ => rfl⟩, ⟨_, rfl, trivial, fun _ _ _ => rfl⟩, ⟨_, rfl, (show 27 < 32 by decide), fun _ _ _ => rfl⟩, trivial⟩) ?_
    · have h6 := (hW1.envPl hcov2 rfl) 6 (by decide)
      simp only [SV.conc, h6.1, h6.2.1]
    refine Run.of_wpK (hc w L' (some (31, l)) (fun q hq => by obtain rfl := Option.some.inj hq; exact hl)) 1000 _ ?_
    conv => whnf
    refine ⟨by omega, ?_⟩
    conv => whnf
    rw [opF_load1 ix rfl rfl rfl rfl (by rw [idx_nat, Nat.mul_one]) (ints_get hlt)]
    conv => whnf
    refine ⟨by have := h3 ix hlt; omega, ?_⟩
    conv => whnf
    rw [opF_loadWf (f := Rul.vals) (l := rs) (c := .bool rs[pl[ix].toNat].sum) pl[ix].toNat 9 rfl rfl rfl rfl Rul.vlen (by rw [idx_eq]) hk (by decide) rfl]
    conv => whnf
    have hgd : pl.getD ix (-1) = pl[ix] := by simp [List.getD_eq_getElem?_getD, hlt]
    have hrd : rs.getD pl[ix].toNat rul0 = rs[pl[ix].toNat] := by simp [List.getD_eq_getElem?_getD, hk]
    have hSl : ix < S.length := by omega
    have hml : ix < m.length := by omega
    have hSd : S.getD ix syn0 = S[ix] := by simp [List.getD_eq_getElem?_getD, hSl]
    have hmd : m.getD ix mrk0 = m[ix] := by simp [List.getD_eq_getElem?_getD, hml]
    have e := sumsY_succ S rs pl m hix
    unfold sumStep at e
    rw [hgd, hrd, hSd, hmd] at e
    cases hs : rs[pl[ix].toNat].sum
    case false =>
      rw [hs, if_neg (by decide)] at e
      conv => whnf
      refine ⟨fun ρ w' hW _ => ⟨rfl, ρ, ?_⟩⟩
      exact hW.less (r := id) ⟨AllP.mem (l := inLoop (29 + 1) a _ _ _ _ d [(29, .pin pl2), (28, .cells [.ptr 0 0] 64), (27, .cells [.mp 26] 94), (26, .kmap true true (sumsY S rs pl m (j + 1))), (25, .cells [.ptr 0 0] 64), (24, .pin plp), (0, .cells (lcells tk inp rg tt) 96), (2, .rwin 4 S.length (S.flatMap Syn.vals)), (4, .rwin 10 rs.length (rs.flatMap Rul.vals)), (5, .rwin 1 pl.length (ints pl)), (6, .rwin 4 m.length (m.flatMap Mrk.vals))]) ⟨⟨rfl, by omega, trivial⟩, ⟨rfl, by omega, trivial⟩, ⟨by rw [oren_id]; rfl, by omega, fun p hp => Nat.lt_of_lt_of_le (hcov2.1 p hp) (by decide)⟩, ⟨by rw [oren_id]; rfl, by omega, (show 0 < 32 by decide), trivial⟩, ⟨by rw [oren_id]; rfl, by omega, (show 26 < 32 by decide), trivial⟩, ⟨by rw [oren_id, e]; rfl, by omega, trivial⟩, ⟨by rw [oren_id]; rfl, by omega, (show 0 < 32 by decide), trivial⟩, ⟨by rw [oren_id]; rfl, by omega, fun p hp => Nat.lt_of_lt_of_le (hcov.1 p hp) (by decide)⟩, ⟨by rw [oren_id]; rfl, by omega, SV.scs_lt (by decide) hsc⟩, ⟨rfl, by omega, trivial⟩, ⟨rfl, by omega, trivial⟩, ⟨rfl, by omega, trivial⟩, ⟨rfl, by omega, trivial⟩, trivial⟩, fun _ _ _ _ h => h, fun q hq => ⟨rfl, hlid q hq⟩⟩
    case true =>
      rw [hs, if_pos rfl] at e
      conv => whnf
      refine Run.drawX (hc w L' (some (31, l)) (fun q hq => by obtain rfl := Option.some.inj hq; exact hl)) 21 13 19 rfl rfl rfl rfl (by kernel_rfl) ?_
      rw [show upto 0 21 = upto 0 12 ++ (upto 12 2 ++ (upto 14 4 ++ (upto 18 2 ++ upto 20 1))) from rfl]
      simp only [drawK_app]
      conv => whnf
      refine ⟨by omega, ?_⟩
      conv => whnf
      rw [opF_loadWf (f := Syn.vals) (l := S) (c := .int .i64 S[ix].to) ix 1 rfl rfl rfl rfl Syn.vlen (by rw [idx_nat]) hSl (by decide) rfl]
      conv => whnf
      rw [kint_get (sumsY_int S rs pl m j)]
      conv => whnf
      rw [opF_loadWf (f := Mrk.vals) (l := m) (c := .int .i64 m[ix].w) ix 0 rfl rfl rfl rfl Mrk.vlen rfl hml (by decide) rfl]
      conv => whnf
      rw [kint_get (sumsY_int S rs pl m j)]
      conv => whnf
      refine ⟨by kernel_rfl, ?_⟩
      refine Run.of_wpK (hc w L' (some (31, l)) (fun q hq => by obtain rfl := Option.some.inj hq; exact hl)) 1000 _ ?_
      conv => whnf
      refine ⟨⟨by omega, by have := kidx_lt (sumsY S rs pl m j) (.p pl[ix] S[ix].to) (.int .i64 0); omega⟩, ?_⟩
      conv => whnf
      have hput : kset (kent (sumsY S rs pl m j) (.p pl[ix] S[ix].to) (.int .i64 0)) (((kidx (sumsY S rs pl m j) (.p pl[ix] S[ix].to) : Nat) : Int)).toNat (.int .i64 (W (kiv (sumsY S rs pl m j) (.p pl[ix] S[ix].to) + m[ix].w))) = sumsY S rs pl m (j + 1) := by
        rw [Int.toNat_natCast, kset_ent, e]
      refine ⟨fun ρ w' hW _ => ⟨rfl, ρ, ?_⟩⟩
      exact hW.less (r := id) ⟨AllP.mem (l := inLoop (29 + 1) a _ _ _ _ d [(29, .pin pl2), (28, .cells [.ptr 0 0] 64), (27, .cells [.mp 26] 94), (26, .kmap true true (sumsY S rs pl m (j + 1))), (25, .cells [.ptr 0 0] 64), (24, .pin plp), (0, .cells (lcells tk inp rg tt) 96), (2, .rwin 4 S.length (S.flatMap Syn.vals)), (4, .rwin 10 rs.length (rs.flatMap Rul.vals)), (5, .rwin 1 pl.length (ints pl)), (6, .rwin 4 m.length (m.flatMap Mrk.vals))]) ⟨⟨rfl, by omega, trivial⟩, ⟨rfl, by omega, trivial⟩, ⟨by rw [oren_id]; rfl, by omega, fun p hp => Nat.lt_of_lt_of_le (hcov2.1 p hp) (by decide)⟩, ⟨by rw [oren_id]; rfl, by omega, (show 0 < 32 by decide), trivial⟩, ⟨by rw [oren_id]; rfl, by omega, (show 26 < 32 by decide), trivial⟩, ⟨by rw [oren_id, ← hput]; rfl, by omega, trivial⟩, ⟨by rw [oren_id]; rfl, by omega, (show 0 < 32 by decide), trivial⟩, ⟨by rw [oren_id]; rfl, by omega, fun p hp => Nat.lt_of_lt_of_le (hcov.1 p hp) (by decide)⟩, ⟨by rw [oren_id]; rfl, by omega, SV.scs_lt (by decide) hsc⟩, ⟨rfl, by omega, trivial⟩, ⟨rfl, by omega, trivial⟩, ⟨rfl, by omega, trivial⟩, ⟨rfl, by omega, trivial⟩, trivial⟩, fun _ _ _ _ h => h, fun q hq => ⟨rfl, hlid q hq⟩⟩
  · intro L' a d hwid hd hLp
    refine Run.of_wpK (hc w L' none (fun q hq => by cases hq)) 1000 _ ?_
    conv => whnf
    refine Run.retD (hc w L' none (fun q hq => by cases hq)) rfl (29 + 1) d hd rfl (.inr ⟨_, rfl⟩) rfl ?_
    have hall : sumsY S rs pl m (synXs ((envPl pl2).s 6) ((envPl pl2).o 6) pl).length = sumsL S rs pl m := by
      unfold sumsY sumsL
      rw [synXs_map, List.length_map, List.take_length]
    refine SpecR.introN 26 (by decide) hwid hLB (by decide) hcov rfl rfl (show 24 < 25 by decide) ⟨⟨?_, by omega, trivial⟩, ⟨?_, by omega, SV.scs_lt (by decide) hsc⟩, ⟨rfl, by omega, trivial⟩, ⟨rfl, by omega, trivial⟩, ⟨rfl, by omega, trivial⟩, ⟨rfl, by omega, trivial⟩, trivial⟩
    · rw [← hall]; rfl
    · show some (SObj.cells (lcells tk inp rg tt) 96) = some (.cells (SV.rens _ (lcells tk inp rg tt)) 96)
      rw [rens_fix (fun i hi => sh_fix i hi) _ hsc]
end Go.Proofs.Ytnnlpdgnlccbjaa
namespace Go.Proofs.Ytnnlpdgnlccbjaa
open Go.Sx
set_option maxRecDepth 100000
set_option maxHeartbeats 2000000
/-- A round at a synapse: what is left, and the marks. -/
def rdStep (S : List Syn) (pl : List Int) (r p to by_ : Int) (x : Int × List Mrk) (i : Nat) : Int × List Mrk :=
  if x.1 ≠ 0 ∧ pl.getD i (-1) = r ∧ (S.getD i syn0).to = p ∧ (x.2.getD i mrk0).w ≠ to then (W (x.1 - by_), x.2.set i { x.2.getD i mrk0 with w := W ((x.2.getD i mrk0).w + by_) }) else x
def rdY (S : List Syn) (pl : List Int) (r p to by_ : Int) (x : Int × List Mrk) (j : Nat) : Int × List Mrk := ((plIdx pl).take j).foldl (rdStep S pl r p to by_) x
def rdL (S : List Syn) (pl : List Int) (r p to by_ : Int) (x : Int × List Mrk) : Int × List Mrk := (plIdx pl).foldl (rdStep S pl r p to by_) x
theorem rdY_succ (S : List Syn) (pl : List Int) (r p to by_ : Int) (x : Int × List Mrk) {j i : Nat} (h : (plIdx pl)[j]? = some i) : rdY S pl r p to by_ x (j + 1) = rdStep S pl r p to by_ (rdY S pl r p to by_ x j) i := by
  have hj := (List.getElem?_eq_some_iff.1 h).1
  have hv := (List.getElem?_eq_some_iff.1 h).2
  unfold rdY
  rw [← List.take_append_getElem hj, List.foldl_append, hv]; rfl
theorem rdStep_len (S : List Syn) (pl : List Int) (r p to by_ : Int) (x : Int × List Mrk) (i : Nat) : (rdStep S pl r p to by_ x i).2.length = x.2.length := by
  unfold rdStep
  split
  · simp
  · rfl
theorem rdFold_len (S : List Syn) (pl : List Int) (r p to by_ : Int) : ∀ (l : List Nat) (x : Int × List Mrk), (l.foldl (rdStep S pl r p to by_) x).2.length = x.2.length
  | [], _ => rfl
  | a :: l, x => by rw [List.foldl_cons, rdFold_len S pl r p to by_ l, rdStep_len]
theorem scs_marks (S : Nat → Prop) (l : List Mrk) : SV.scs S (l.flatMap Mrk.cells) := by rw [marks_v]; exact scs_v _ _
/-- What a round looks at, and changes. -/
def rdM (C : List SV) (S : List Syn) (pl : List Int) (r p left : Int) (m : List Mrk) : List (Nat × SObj) := [(24, .cells [.ptr 0 0] 64), (25, .cells [ii left] 3), (26, .cells [ii r, ii p] 175), (0, .cells C 96), (2, .rwin 4 S.length (S.flatMap Syn.vals)), (5, .rwin 1 pl.length (ints pl)), (6, .row 4 pl.length (m.flatMap Mrk.cells) 84)]
theorem round_spec (tk : SV) (inp : Int) (rg : Nat → SV) (tt : SV) (S : List Syn) (pl : List Int) (r p left to by_ : Int) (m : List Mrk) (hsc : SV.scs (· < 24) (lcells tk inp rg tt)) (h1 : pl.length = S.length) (h2 : m.length = S.length) (hS : S.length ≤ 8192) :
    BSpec Try.prog 104 [ii to, ii by_, .ptr 24 0, .ptr 25 0, .ptr 26 0] (rdM (lcells tk inp rg tt) S pl r p left m) 27 [0, 24, 25, 26, 6] (.tup []) (rdM (lcells tk inp rg tt) S pl r p (rdL S pl r p to by_ (left, m)).1 (rdL S pl r p to by_ (left, m)).2) 27 := by
  have hc : ∀ w L' rd, (∀ p, rd = some p → p ∈ L') → Cx.ok ⟨Try.prog, tab, [], 104, Try.f104, [], w, L', rd⟩ := fun w L' rd h => ⟨tab_ok, trivial, Try.func104, mixed, h⟩
  refine BSpec.start (tab := tab) (pf := []) (cuts := []) Try.func104 rfl ⟨trivial, trivial, (show 24 < 27 by decide), (show 25 < 27 by decide), (show 26 < 27 by decide), trivial⟩ rfl fun w L0 plp hL hLB hcov => Run.of_wpK (hc w L0 none (fun _ h => by cases h)) 100 _ ?_
  conv => whnf
  refine Run.callP (vs := [.ptr 0 0]) (caps := []) synapses_spec (ent _ _ Try.func81 (by kernel_rfl) rfl) rfl rfl rfl rfl rfl rfl rfl (by decide) (by decide) trivial (fun i hi => by cases hi) (.fn 103 [.ptr 30 0])
    [(30, .cells [.ptr 0 0] 64), (29, .cells [ii by_] 3), (28, .cells [ii to] 3), (27, .pin plp), (24, .cells [.ptr 0 0] 64), (25, .cells [ii left] 3), (26, .cells [ii r, ii p] 175), (0, .cells (lcells tk inp rg tt) 96), (2, .rwin 4 S.length (S.flatMap Syn.vals)), (5, .rwin 1 pl.length (ints pl)), (6, .row 4 pl.length (m.flatMap Mrk.cells) 84)] 31 rfl rfl
    ⟨.inr ⟨24, _, rfl, rfl, rfl, rfl⟩, .inl ⟨rfl, by simp⟩, .inl ⟨rfl, by simp⟩, .inl ⟨rfl, by simp⟩, .inl ⟨rfl, by simp⟩, .inl ⟨rfl, by simp⟩, .inl ⟨rfl, by simp⟩, .inl ⟨rfl, by simp⟩, .inl ⟨rfl, by simp⟩, .inl ⟨rfl, by simp⟩, .inl ⟨rfl, by simp⟩, trivial⟩ ?_
  refine Run.of_wpK (hc w L0 none (fun _ h => by cases h)) 100 _ ?_
  conv => whnf
  refine Run.pinAll fun pl2 hcov2 => ?_
  refine Run.rangeF (T0 := [(2, .ptr 24 0), (3, .ptr 25 0), (4, .ptr 26 0), (5, .ptr 28 0), (6, .ptr 29 0)]) (caps := [.ptr 30 0]) rfl (x := .tmp 10) rfl rfl (ent _ _ Try.func103 (by kernel_rfl) rfl) hcov2 rfl (by decide)
    (fun j => [(31, .pin pl2), (30, .cells [.ptr 0 0] 64), (29, .cells [ii by_] 3), (28, .cells [ii to] 3), (27, .pin plp), (24, .cells [.ptr 0 0] 64), (25, .cells [ii (rdY S pl r p to by_ (left, m) j).1] 3), (26, .cells [ii r, ii p] 175), (0, .cells (lcells tk inp rg tt) 96), (2, .rwin 4 S.length (S.flatMap Syn.vals)), (5, .rwin 1 pl.length (ints pl)), (6, .row 4 pl.length ((rdY S pl r p to by_ (left, m) j).2.flatMap Mrk.cells) 84)]) 34
    (synXs ((envPl pl2).s 6) ((envPl pl2).o 6) pl) (by simp) ?_ ?_ (by decide) (fun _ => rfl) ?_ ?_ (SynI ((envPl pl2).ren (Sx.rs 24 30)) (lcells tk inp rg tt) pl) ?_ ?_ ?_ ?_
  · exact AllP.mem (l := [11, 12]) ⟨Nat.le_of_ble_eq_true rfl, Nat.le_of_ble_eq_true rfl, trivial⟩
  · intro v hv
    rw [synXs_map] at hv
    obtain ⟨ix, _, rfl⟩ := List.mem_map.1 hv
    rfl
  · exact AllP.mem ⟨⟨rfl, (show 24 < 31 by decide)⟩, ⟨rfl, (show 25 < 31 by decide)⟩, ⟨rfl, (show 26 < 31 by decide)⟩, ⟨rfl, (show 28 < 31 by decide)⟩, ⟨rfl, (show 29 < 31 by decide)⟩, trivial⟩
  · exact AllP.mem ⟨⟨rfl, by omega⟩, ⟨rfl, by omega⟩, ⟨rfl, by omega⟩, ⟨rfl, by omega⟩, ⟨rfl, by omega⟩, ⟨rfl, by omega⟩, ⟨rfl, by omega⟩, ⟨rfl, by omega⟩, ⟨rfl, by omega⟩, ⟨rfl, by omega⟩, ⟨rfl, by omega⟩, ⟨rfl, by omega⟩, trivial⟩
  · intro ρ w1 hW1
    have h30 := (hW1.envPl hcov2 rfl) 30 (by decide)
    have ho : ρ.o 30 = 0 := (hW1.mem 30 _ rfl).2.2.1
    have e : SV.concs ρ [.ptr 30 0] = [Value.pointer (some ⟨((envPl pl2).ren (Sx.rs 24 30)).s 24, 0, none⟩)] := by
      simp only [SV.concs, SV.conc, ho, h30.1]; rfl
    rw [e]
    exact syn_iter _ tk inp rg tt pl (SV.scs_lt (by decide) hsc) (by omega)
  · intro i L' ρ' a d w' hwid hW'
    exact SynI.of hW' 30 31 pl2 _ pl ((rdY S pl r p to by_ (left, m) i).2.flatMap Mrk.vals) hcov2 rfl (by decide) (by decide) rfl rfl rfl ⟨_, rfl, Conv.row (by decide) (marks_v _)⟩ hsc
  · intro j v hv L' l a d hwid hl hLp
    have hlid : ∀ p ∈ L', p.1 < 34 := fun p hp => by
      rcases hLp p hp with h | h | h
      · omega
      · omega
      · have := hLB p h; omega
    rw [synXs_map, List.getElem?_map] at hv
    cases hix : (plIdx pl)[j]? with
    | none => rw [hix] at hv; cases hv
    | some ix =>
    rw [hix] at hv
    obtain rfl := Option.some.inj hv
    obtain ⟨hlt, hge⟩ := plIdx_mem (List.mem_of_getElem? hix)
    refine Run.tell (T' := [(11, ii (ix : Int)), (12, .ptr 6 (ix * 4)), (2, .ptr 24 0), (3, .ptr 25 0), (4, .ptr 26 0), (5, .ptr 28 0), (6, .ptr 29 0)]) (AllP.mem ⟨⟨_, rfl, trivial, fun _ _ _ => rfl⟩, ⟨_, rfl, (show 6 < 34 by decide), fun ρ w1 hW1 => ?_⟩, ⟨_, rfl, (show 24 < 34 by decide), fun _ _ _ => rfl⟩, ⟨_, rfl, (show 25 < 34 by decide), fun _ _ _ => rfl⟩, ⟨_, rfl, (show 26 < 34 by decide), fun _ _ _ => rfl⟩, ⟨_, rfl, (show 28 < 34 by decide), fun _ _ _ => rfl⟩, ⟨_, rfl, (show 29 < 34 by decide), fun _ _ _ => rfl⟩, trivial⟩) ?_
    · have h6 := (hW1.envPl hcov2 rfl) 6 (by decide)
      simp only [SV.conc, h6.1, h6.2.1]
    have hgd : pl.getD ix (-1) = pl[ix] := by simp [List.getD_eq_getElem?_getD, hlt]
    have hSl : ix < S.length := by omega
    have hSd : S.getD ix syn0 = S[ix] := by simp [List.getD_eq_getElem?_getD, hSl]
    have hylen : (rdY S pl r p to by_ (left, m) j).2.length = S.length := by unfold rdY; rw [rdFold_len]; exact h2
    have hml : ix < (rdY S pl r p to by_ (left, m) j).2.length := by omega
    have hmd : (rdY S pl r p to by_ (left, m) j).2.getD ix mrk0 = (rdY S pl r p to by_ (left, m) j).2[ix] := by simp [List.getD_eq_getElem?_getD, hml]
    have e := rdY_succ S pl r p to by_ (left, m) hix
    unfold rdStep at e
    rw [hgd, hSd, hmd] at e
    refine Run.of_wpK (hc w L' (some (33, l)) (fun q hq => by obtain rfl := Option.some.inj hq; exact hl)) 1000 _ ?_
    conv => whnf
    refine Run.draw (hc w L' (some (33, l)) (fun q hq => by obtain rfl := Option.some.inj hq; exact hl)) 35 ?_
    rw [show upto 0 35 = upto 0 4 ++ (upto 4 6 ++ (upto 10 6 ++ (upto 16 9 ++ (upto 25 6 ++ (upto 31 3 ++ upto 34 1))))) from rfl]
    simp only [drawK_app]
    conv => whnf
    cases b1 : (rdY S pl r p to by_ (left, m) j).1 != 0
    case false =>
      have b1n : (rdY S pl r p to by_ (left, m) j).1 = 0 := by simpa using b1
      have e2 : rdY S pl r p to by_ (left, m) (j + 1) = rdY S pl r p to by_ (left, m) j := by rw [e, if_neg (fun h => h.1 b1n)]
      conv => whnf
      refine ⟨by kernel_rfl, ?_⟩
      refine Run.of_wpK (hc w L' (some (33, l)) (fun q hq => by obtain rfl := Option.some.inj hq; exact hl)) 1000 _ ?_
      conv => whnf
      refine ⟨fun ρ w' hW _ => ⟨rfl, ρ, ?_⟩⟩
      exact hW.less (r := id) ⟨AllP.mem (l := inLoop (31 + 1) a _ _ _ _ d [(31, .pin pl2), (30, .cells [.ptr 0 0] 64), (29, .cells [ii by_] 3), (28, .cells [ii to] 3), (27, .pin plp), (24, .cells [.ptr 0 0] 64), (25, .cells [ii (rdY S pl r p to by_ (left, m) (j + 1)).1] 3), (26, .cells [ii r, ii p] 175), (0, .cells (lcells tk inp rg tt) 96), (2, .rwin 4 S.length (S.flatMap Syn.vals)), (5, .rwin 1 pl.length (ints pl)), (6, .row 4 pl.length ((rdY S pl r p to by_ (left, m) (j + 1)).2.flatMap Mrk.cells) 84)]) ⟨⟨rfl, by omega, trivial⟩, ⟨rfl, by omega, trivial⟩, ⟨by rw [oren_id]; rfl, by omega, fun p hp => Nat.lt_of_lt_of_le (hcov2.1 p hp) (by decide)⟩, ⟨by rw [oren_id]; rfl, by omega, (show 0 < 34 by decide), trivial⟩, ⟨by rw [oren_id]; rfl, by omega, by simp [SObj.sc, SV.scs, SV.sc]⟩, ⟨by rw [oren_id]; rfl, by omega, by simp [SObj.sc, SV.scs, SV.sc]⟩, ⟨by rw [oren_id]; rfl, by omega, fun p hp => Nat.lt_of_lt_of_le (hcov.1 p hp) (by decide)⟩, ⟨by rw [oren_id]; rfl, by omega, (show 0 < 34 by decide), trivial⟩, ⟨by rw [oren_id, e2]; rfl, by omega, trivial, trivial⟩, ⟨by rw [oren_id]; rfl, by omega, by simp [SObj.sc, SV.scs, SV.sc]⟩, ⟨by rw [oren_id]; rfl, by omega, SV.scs_lt (by decide) hsc⟩, ⟨rfl, by omega, trivial⟩, ⟨rfl, by omega, trivial⟩, ⟨by rw [oren_id, e2]; rfl, by omega, scs_marks _ _⟩, trivial⟩, fun _ _ _ _ h => h, fun q hq => ⟨rfl, hlid q hq⟩⟩
    have b1' : (rdY S pl r p to by_ (left, m) j).1 ≠ 0 := by simpa using b1
    conv => whnf
    refine ⟨by omega, ?_⟩
    conv => whnf
    rw [opF_load1 ix rfl rfl rfl rfl (by rw [idx_nat, Nat.mul_one]) (ints_get hlt)]
    conv => whnf
    cases b2 : pl[ix] == r
    case false =>
      have b2n : pl[ix] ≠ r := by simpa using b2
      have e2 : rdY S pl r p to by_ (left, m) (j + 1) = rdY S pl r p to by_ (left, m) j := by rw [e, if_neg (fun h => b2n h.2.1)]
      conv => whnf
      refine ⟨by kernel_rfl, ?_⟩
      refine Run.of_wpK (hc w L' (some (33, l)) (fun q hq => by obtain rfl := Option.some.inj hq; exact hl)) 1000 _ ?_
      conv => whnf
      refine ⟨fun ρ w' hW _ => ⟨rfl, ρ, ?_⟩⟩
      exact hW.less (r := id) ⟨AllP.mem (l := inLoop (31 + 1) a _ _ _ _ d [(31, .pin pl2), (30, .cells [.ptr 0 0] 64), (29, .cells [ii by_] 3), (28, .cells [ii to] 3), (27, .pin plp), (24, .cells [.ptr 0 0] 64), (25, .cells [ii (rdY S pl r p to by_ (left, m) (j + 1)).1] 3), (26, .cells [ii r, ii p] 175), (0, .cells (lcells tk inp rg tt) 96), (2, .rwin 4 S.length (S.flatMap Syn.vals)), (5, .rwin 1 pl.length (ints pl)), (6, .row 4 pl.length ((rdY S pl r p to by_ (left, m) (j + 1)).2.flatMap Mrk.cells) 84)]) ⟨⟨rfl, by omega, trivial⟩, ⟨rfl, by omega, trivial⟩, ⟨by rw [oren_id]; rfl, by omega, fun p hp => Nat.lt_of_lt_of_le (hcov2.1 p hp) (by decide)⟩, ⟨by rw [oren_id]; rfl, by omega, (show 0 < 34 by decide), trivial⟩, ⟨by rw [oren_id]; rfl, by omega, by simp [SObj.sc, SV.scs, SV.sc]⟩, ⟨by rw [oren_id]; rfl, by omega, by simp [SObj.sc, SV.scs, SV.sc]⟩, ⟨by rw [oren_id]; rfl, by omega, fun p hp => Nat.lt_of_lt_of_le (hcov.1 p hp) (by decide)⟩, ⟨by rw [oren_id]; rfl, by omega, (show 0 < 34 by decide), trivial⟩, ⟨by rw [oren_id, e2]; rfl, by omega, trivial, trivial⟩, ⟨by rw [oren_id]; rfl, by omega, by simp [SObj.sc, SV.scs, SV.sc]⟩, ⟨by rw [oren_id]; rfl, by omega, SV.scs_lt (by decide) hsc⟩, ⟨rfl, by omega, trivial⟩, ⟨rfl, by omega, trivial⟩, ⟨by rw [oren_id, e2]; rfl, by omega, scs_marks _ _⟩, trivial⟩, fun _ _ _ _ h => h, fun q hq => ⟨rfl, hlid q hq⟩⟩
    have b2' : pl[ix] = r := by simpa using b2
    conv => whnf
    refine ⟨by omega, ?_⟩
    conv => whnf
    rw [opF_loadWf (f := Syn.vals) (l := S) (c := .int .i64 S[ix].to) ix 1 rfl rfl rfl rfl Syn.vlen (by rw [idx_nat]) hSl (by decide) rfl]
    conv => whnf
    cases b3 : S[ix].to == p
    case false =>
      have b3n : S[ix].to ≠ p := by simpa using b3
      have e2 : rdY S pl r p to by_ (left, m) (j + 1) = rdY S pl r p to by_ (left, m) j := by rw [e, if_neg (fun h => b3n h.2.2.1)]
      conv => whnf
      refine ⟨by kernel_rfl, ?_⟩
      refine Run.of_wpK (hc w L' (some (33, l)) (fun q hq => by obtain rfl := Option.some.inj hq; exact hl)) 1000 _ ?_
      conv => whnf
      refine ⟨fun ρ w' hW _ => ⟨rfl, ρ, ?_⟩⟩
      exact hW.less (r := id) ⟨AllP.mem (l := inLoop (31 + 1) a _ _ _ _ d [(31, .pin pl2), (30, .cells [.ptr 0 0] 64), (29, .cells [ii by_] 3), (28, .cells [ii to] 3), (27, .pin plp), (24, .cells [.ptr 0 0] 64), (25, .cells [ii (rdY S pl r p to by_ (left, m) (j + 1)).1] 3), (26, .cells [ii r, ii p] 175), (0, .cells (lcells tk inp rg tt) 96), (2, .rwin 4 S.length (S.flatMap Syn.vals)), (5, .rwin 1 pl.length (ints pl)), (6, .row 4 pl.length ((rdY S pl r p to by_ (left, m) (j + 1)).2.flatMap Mrk.cells) 84)]) ⟨⟨rfl, by omega, trivial⟩, ⟨rfl, by omega, trivial⟩, ⟨by rw [oren_id]; rfl, by omega, fun p hp => Nat.lt_of_lt_of_le (hcov2.1 p hp) (by decide)⟩, ⟨by rw [oren_id]; rfl, by omega, (show 0 < 34 by decide), trivial⟩, ⟨by rw [oren_id]; rfl, by omega, by simp [SObj.sc, SV.scs, SV.sc]⟩, ⟨by rw [oren_id]; rfl, by omega, by simp [SObj.sc, SV.scs, SV.sc]⟩, ⟨by rw [oren_id]; rfl, by omega, fun p hp => Nat.lt_of_lt_of_le (hcov.1 p hp) (by decide)⟩, ⟨by rw [oren_id]; rfl, by omega, (show 0 < 34 by decide), trivial⟩, ⟨by rw [oren_id, e2]; rfl, by omega, trivial, trivial⟩, ⟨by rw [oren_id]; rfl, by omega, by simp [SObj.sc, SV.scs, SV.sc]⟩, ⟨by rw [oren_id]; rfl, by omega, SV.scs_lt (by decide) hsc⟩, ⟨rfl, by omega, trivial⟩, ⟨rfl, by omega, trivial⟩, ⟨by rw [oren_id, e2]; rfl, by omega, scs_marks _ _⟩, trivial⟩, fun _ _ _ _ h => h, fun q hq => ⟨rfl, hlid q hq⟩⟩
    have b3' : S[ix].to = p := by simpa using b3
    conv => whnf
    rw [opF_loadRf (f := Mrk.cells) (l := (rdY S pl r p to by_ (left, m) j).2) (c := ii (rdY S pl r p to by_ (left, m) j).2[ix].w) ix 0 rfl rfl rfl rfl Mrk.clen rfl hml (by decide) rfl]
    conv => whnf
    refine ⟨by kernel_rfl, ?_⟩
    refine Run.of_wpK (hc w L' (some (33, l)) (fun q hq => by obtain rfl := Option.some.inj hq; exact hl)) 1000 _ ?_
    conv => whnf
    cases b4 : (rdY S pl r p to by_ (left, m) j).2[ix].w != to
    case false =>
      have b4n : (rdY S pl r p to by_ (left, m) j).2[ix].w = to := by simpa using b4
      have e2 : rdY S pl r p to by_ (left, m) (j + 1) = rdY S pl r p to by_ (left, m) j := by rw [e, if_neg (fun h => h.2.2.2 b4n)]
      conv => whnf
      refine ⟨fun ρ w' hW _ => ⟨rfl, ρ, ?_⟩⟩
      exact hW.less (r := id) ⟨AllP.mem (l := inLoop (31 + 1) a _ _ _ _ d [(31, .pin pl2), (30, .cells [.ptr 0 0] 64), (29, .cells [ii by_] 3), (28, .cells [ii to] 3), (27, .pin plp), (24, .cells [.ptr 0 0] 64), (25, .cells [ii (rdY S pl r p to by_ (left, m) (j + 1)).1] 3), (26, .cells [ii r, ii p] 175), (0, .cells (lcells tk inp rg tt) 96), (2, .rwin 4 S.length (S.flatMap Syn.vals)), (5, .rwin 1 pl.length (ints pl)), (6, .row 4 pl.length ((rdY S pl r p to by_ (left, m) (j + 1)).2.flatMap Mrk.cells) 84)]) ⟨⟨rfl, by omega, trivial⟩, ⟨rfl, by omega, trivial⟩, ⟨by rw [oren_id]; rfl, by omega, fun p hp => Nat.lt_of_lt_of_le (hcov2.1 p hp) (by decide)⟩, ⟨by rw [oren_id]; rfl, by omega, (show 0 < 34 by decide), trivial⟩, ⟨by rw [oren_id]; rfl, by omega, by simp [SObj.sc, SV.scs, SV.sc]⟩, ⟨by rw [oren_id]; rfl, by omega, by simp [SObj.sc, SV.scs, SV.sc]⟩, ⟨by rw [oren_id]; rfl, by omega, fun p hp => Nat.lt_of_lt_of_le (hcov.1 p hp) (by decide)⟩, ⟨by rw [oren_id]; rfl, by omega, (show 0 < 34 by decide), trivial⟩, ⟨by rw [oren_id, e2]; rfl, by omega, trivial, trivial⟩, ⟨by rw [oren_id]; rfl, by omega, by simp [SObj.sc, SV.scs, SV.sc]⟩, ⟨by rw [oren_id]; rfl, by omega, SV.scs_lt (by decide) hsc⟩, ⟨rfl, by omega, trivial⟩, ⟨rfl, by omega, trivial⟩, ⟨by rw [oren_id, e2]; rfl, by omega, scs_marks _ _⟩, trivial⟩, fun _ _ _ _ h => h, fun q hq => ⟨rfl, hlid q hq⟩⟩
    have b4' : (rdY S pl r p to by_ (left, m) j).2[ix].w ≠ to := by simpa using b4
    rw [if_pos ⟨b1', b2', b3', b4'⟩] at e
    conv => whnf
    refine Run.draw (hc w L' (some (33, l)) (fun q hq => by obtain rfl := Option.some.inj hq; exact hl)) 5 ?_
    rw [show upto 0 5 = upto 0 4 ++ upto 4 1 from rfl]
    simp only [drawK_app]
    conv => whnf
    rw [opF_loadRf (f := Mrk.cells) (l := (rdY S pl r p to by_ (left, m) j).2) (c := ii (rdY S pl r p to by_ (left, m) j).2[ix].w) ix 0 rfl rfl rfl rfl Mrk.clen rfl hml (by decide) rfl]
    conv => whnf
    refine ⟨by kernel_rfl, ?_⟩
    refine Run.of_wpK (hc w L' (some (33, l)) (fun q hq => by obtain rfl := Option.some.inj hq; exact hl)) 1000 _ ?_
    conv => whnf
    rw [opF_storeRf (f := Mrk.cells) (l := (rdY S pl r p to by_ (left, m) j).2) ix 0 { (rdY S pl r p to by_ (left, m) j).2[ix] with w := W ((rdY S pl r p to by_ (left, m) j).2[ix].w + by_) } rfl rfl rfl rfl rfl Mrk.clen rfl hml (by decide) rfl rfl rfl]
    conv => whnf
    have e4 : rdY S pl r p to by_ (left, m) (j + 1) = (W ((rdY S pl r p to by_ (left, m) j).1 - by_), (rdY S pl r p to by_ (left, m) j).2.set ix { (rdY S pl r p to by_ (left, m) j).2[ix] with w := W ((rdY S pl r p to by_ (left, m) j).2[ix].w + by_) }) := e
    refine ⟨fun ρ w' hW _ => ⟨rfl, ρ, ?_⟩⟩
    exact hW.less (r := id) ⟨AllP.mem (l := inLoop (31 + 1) a _ _ _ _ d [(31, .pin pl2), (30, .cells [.ptr 0 0] 64), (29, .cells [ii by_] 3), (28, .cells [ii to] 3), (27, .pin plp), (24, .cells [.ptr 0 0] 64), (25, .cells [ii (rdY S pl r p to by_ (left, m) (j + 1)).1] 3), (26, .cells [ii r, ii p] 175), (0, .cells (lcells tk inp rg tt) 96), (2, .rwin 4 S.length (S.flatMap Syn.vals)), (5, .rwin 1 pl.length (ints pl)), (6, .row 4 pl.length ((rdY S pl r p to by_ (left, m) (j + 1)).2.flatMap Mrk.cells) 84)]) ⟨⟨rfl, by omega, trivial⟩, ⟨rfl, by omega, trivial⟩, ⟨by rw [oren_id]; rfl, by omega, fun p hp => Nat.lt_of_lt_of_le (hcov2.1 p hp) (by decide)⟩, ⟨by rw [oren_id]; rfl, by omega, (show 0 < 34 by decide), trivial⟩, ⟨by rw [oren_id]; rfl, by omega, by simp [SObj.sc, SV.scs, SV.sc]⟩, ⟨by rw [oren_id]; rfl, by omega, by simp [SObj.sc, SV.scs, SV.sc]⟩, ⟨by rw [oren_id]; rfl, by omega, fun p hp => Nat.lt_of_lt_of_le (hcov.1 p hp) (by decide)⟩, ⟨by rw [oren_id]; rfl, by omega, (show 0 < 34 by decide), trivial⟩, ⟨by rw [oren_id, e4]; rfl, by omega, trivial, trivial⟩, ⟨by rw [oren_id]; rfl, by omega, by simp [SObj.sc, SV.scs, SV.sc]⟩, ⟨by rw [oren_id]; rfl, by omega, SV.scs_lt (by decide) hsc⟩, ⟨rfl, by omega, trivial⟩, ⟨rfl, by omega, trivial⟩, ⟨by rw [oren_id, e4]; rfl, by omega, scs_marks _ _⟩, trivial⟩, fun _ _ _ _ h => h, fun q hq => ⟨rfl, hlid q hq⟩⟩
  · intro L' a d hwid hd hLp
    refine Run.of_wpK (hc w L' none (fun q hq => by cases hq)) 1000 _ ?_
    conv => whnf
    refine Run.retD (hc w L' none (fun q hq => by cases hq)) rfl (31 + 1) d hd rfl (.inl rfl) rfl ?_
    have hall : rdY S pl r p to by_ (left, m) (synXs ((envPl pl2).s 6) ((envPl pl2).o 6) pl).length = rdL S pl r p to by_ (left, m) := by
      unfold rdY rdL
      rw [synXs_map, List.length_map, List.take_length]
    have fix : ∀ {cs : List SV}, SV.scs (· < 27) cs → SV.rens (sh 27 28) cs = cs := fun h => rens_fix (fun i hi => sh_fix i hi) _ h
    refine SpecR.introN 28 (by decide) hwid hLB (by decide) hcov rfl rfl trivial ⟨⟨rfl, by omega, (show 0 < 27 by decide), trivial⟩, ⟨?_, by omega, trivial, trivial⟩, ⟨rfl, by omega, trivial, trivial, trivial⟩, ⟨?_, by omega, SV.scs_lt (by decide) hsc⟩, ⟨rfl, by omega, trivial⟩, ⟨rfl, by omega, trivial⟩, ⟨?_, by omega, scs_marks _ _⟩, trivial⟩
    · rw [← hall]; rfl
    · show some (SObj.cells (lcells tk inp rg tt) 96) = some (.cells (SV.rens _ (lcells tk inp rg tt)) 96)
      rw [fix (SV.scs_lt (by decide) hsc)]
    · rw [← hall]
      show some (SObj.row 4 pl.length _ 84) = some (.row 4 pl.length (SV.rens _ _) 84)
      rw [fix (scs_marks _ _)]
end Go.Proofs.Ytnnlpdgnlccbjaa
