/-
  Laws of the executor, and walks of functions (part 10). The conditions stand with each law.
-/
import Derived.Test.YthaigkamfnjfbaaMtsi
namespace Go.Proofs.Ythaigkamfnjfbaa
open Go.Sx
set_option maxRecDepth 100000
set_option maxHeartbeats 16000000
theorem rq2 (a b i : Nat) : rq [(a, b), (b, a)] i = if a = i then b else if b = i then a else i := by
  unfold rq
  rw [look_cons]
  by_cases h1 : a = i
  · rw [if_pos h1, if_pos h1]
  · rw [if_neg h1, if_neg h1, look_cons]
    by_cases h2 : b = i
    · rw [if_pos h2, if_pos h2]
    · rw [if_neg h2, if_neg h2]; rfl
theorem rq_swap {a b : Nat} (h : a ≠ b) (i : Nat) : rq [(a, b), (b, a)] (rq [(a, b), (b, a)] i) = i := by
  rw [rq2, rq2]
  by_cases h1 : a = i
  · subst h1; rw [if_pos rfl, if_neg h, if_pos rfl]
  · rw [if_neg h1]
    by_cases h2 : b = i
    · subst h2; rw [if_pos rfl, if_pos rfl]
    · rw [if_neg h2, if_neg h1, if_neg h2]
theorem joinE {G : Prop} {P : World → List (Nat × Nat) → Prop} {c : World → List (Nat × Nat) → Cx} {R : Ending → World → Prop} {q : List Item} (T : List (Nat × SV)) (M : List (Nat × SObj)) (n : Nat) (h1 : (∀ w1 L1, P w1 L1 → Run (c w1 L1) ⟨T, M, n, [], q⟩ R) → G) (h2 : ∀ w1 L1, P w1 L1 → Run (c w1 L1) ⟨T, M, n, [], q⟩ R) : G := h1 h2
/-- The rows of what is due, as far as they have been made. -/
def ringC (d : Nat) : List SV := (List.range 16).map fun j => if j < d then .opq (30 + j) else .v (.slice none 0 0)
def ringM (N d : Nat) : List (Nat × SObj) := (List.range d).map fun j => (30 + j, (.row 1 N (List.replicate N (ii 0)) 3 : SObj))
theorem ringC_sc {d n : Nat} (hn : 46 ≤ n) : SV.scs (· < n) (ringC d) := by
  rw [scs_iff]
  intro a ha
  obtain ⟨j, hj, rfl⟩ := List.mem_map.1 ha
  have := List.mem_range.1 hj
  split
  · show 30 + j < n; omega
  · trivial
theorem ringM_mem {N d : Nat} (hd : d ≤ 16) : ∀ x ∈ ringM N d, x.1 < 46 ∧ 30 ≤ x.1 ∧ ∀ S, x.2.sc S := by
  intro x hx
  obtain ⟨j, hj, rfl⟩ := List.mem_map.1 hx
  have := List.mem_range.1 hj
  exact ⟨by show 30 + j < 46; omega, by show 30 ≤ 30 + j; omega, fun S => by show SV.scs S (List.replicate N (ii 0)); rw [scs_iff]; intro a ha; rw [List.eq_of_mem_replicate ha]; trivial⟩
/-- What is known behind start. -/
def SimAt (w : World) (inp : Int) (N : List Prm) (S : List Syn) (e : Ending) (w' : World) : Prop :=
  ∃ ρ L', e = .returned ((SV.ptr 0 0).conc ρ) ∧ Ext w w' ∧ (∀ p ∈ L', p.1 < 21 ∧ w.heap.size ≤ p.2) ∧ WI w' L' ρ (Sx.look (nsimM inp 0 N S (List.replicate N.length ste0) fun _ => List.replicate N.length 0)) (· < 21) w'
theorem nstart_run (vN vS : Value) (n : Net) (w : World) (hn : IsNet w vN vS n) (hS : n.S.length ≤ 8192) (hN : n.N.length ≤ 1024) :
    Calls Try.prog 35 #[netV vN vS n] w (SimAt w n.inp n.N n.S) := by
  obtain ⟨N, inp, S⟩ := n
  obtain ⟨hn1, hn2⟩ := hn
  simp only at hn1 hn2 hS hN ⊢
  have hpf : PF.oks Try.prog [(52 + 1000, FCl 8 88)] := ⟨mk_params, trivial⟩
  have hc : ∀ w0 L, Cx.ok ⟨Try.prog, tab, [(52 + 1000, FCl 8 88)], 35, Try.f35, [], w0, L, none⟩ := fun w0 L => ⟨tab_ok, hpf, Try.func35, mixed, fun _ h => by cases h⟩
  have hrows : AllP (fun x : Value × Nat × Nat × List Value => RowsAt w x.1 x.2.1 x.2.2.1 x.2.2.2) [(vN, 8, N.length, N.flatMap Prm.vals), (vS, 4, S.length, S.flatMap Syn.vals)] := ⟨hn1, hn2, trivial⟩
  refine Run.startW Try.func35 rfl _ hrows [.agg [.opq 0, ii inp, .opq 1]] [netV vN vS ⟨N, inp, S⟩] [(0, .rwin 8 N.length (N.flatMap Prm.vals)), (1, .rwin 4 S.length (S.flatMap Syn.vals))] 2 rfl rfl
    (by show [Value.agg [(SV.opq 0).conc _, .int .i64 inp, (SV.opq 1).conc _].toArray] = _; rw [conc_rows hrows (k := 0) rfl, conc_rows hrows (k := 1) rfl]; rfl) (by simp [SV.scs, SV.sc]) rfl (Run.of_wpK (hc w []) 1000 _ ?_)
  conv => whnf
  rw [opF_callM (F := FCl 8 88) rfl rfl rfl rfl rfl (FCl_win rfl (by omega) (one_prm _))]
  conv => whnf
  refine Run.trim (T' := [(1, .ptr 2 0)]) (M' := [(2, .cells [.opq 3, ii inp, .opq 1] 57), (3, .row 8 N.length ((N.flatMap Prm.vals).map .v) 88), (1, .rwin 4 S.length (S.flatMap Syn.vals)), (0, .rwin 8 N.length (N.flatMap Prm.vals))]) 4 ⟨⟨rfl, (show 2 < 4 by decide)⟩, trivial⟩ ⟨⟨rfl, by omega, (show 3 < 4 by decide), trivial, (show 1 < 4 by decide), trivial⟩, ⟨rfl, by omega, scs_v _ _⟩, ⟨rfl, by omega, trivial⟩, ⟨rfl, by omega, trivial⟩, trivial⟩ (fun p hp => by cases hp) ?_
  apply joinE (P := fun w1 L1 => Ext w w1 ∧ ∀ p ∈ L1, (p.1 = 2 ∨ p.1 = 3 ∨ p.1 = 10) ∧ w.heap.size ≤ p.2) (c := fun w1 L1 => ⟨Try.prog, tab, [(52 + 1000, FCl 8 88)], 35, Try.f35, [], w1, L1, none⟩) (R := SimAt w inp N S) [(1, .ptr 2 0), (3, .ptr 12 0)] ((12, .cells ([.opq 3, ii inp, .opq 1, .mp 6, ii 0, .opq 10] ++ ringC 0) 117) :: (10, .row 2 N.length ((List.replicate N.length ste0).flatMap Ste.cells) 119) :: (6, swS S) :: (2, .cells [.opq 3, ii inp, .opq 1] 57) :: (3, .row 8 N.length ((N.flatMap Prm.vals).map .v) 88) :: ringM N.length 0) 64
  · intro cont
    refine Run.drawE (hc w []) rfl fun lo hlo => ?_
    obtain ⟨p, r, rfl, hp, hr, hex, hsp, hsr, hbef, haft, hcl⟩ := hlo.split 2 (by decide)
    have b1 : 1 ∈ p := hbef 1 (tp_of rfl)
    obtain ⟨a7, n7⟩ := haft 7 (tp_of rfl) (by decide)
    obtain ⟨a8, n8⟩ := haft 8 (tp_of rfl) (by decide)
    obtain ⟨a9, n9⟩ := haft 9 (tp_of rfl) (by decide)
    have dis : ∀ i, i < 10 → i ∈ p → i ∉ r := fun i hi hip => by
      by_cases e : i = 2
      · subst e; exact hsr
      · rcases hex i hi e with h | h
        · exact h.2
        · exact absurd hip h.1
    have inr : ∀ i, i < 10 → i ≠ 2 → i ∉ p → i ∈ r := fun i hi e hip => by
      rcases hex i hi e with h | h
      · exact absurd h.1 hip
      · exact h.2
    have e34 : 4 ∈ p → 3 ∈ p := fun h => hcl 3 4 (tp_of rfl) h
    have e45 : 5 ∈ p → 4 ∈ p := fun h => hcl 4 5 (tp_of rfl) h
    have e56 : 6 ∈ p → 5 ∈ p := fun h => hcl 5 6 (tp_of rfl) h
    have five : (3 ∈ p ∧ 4 ∈ p ∧ 5 ∈ p ∧ 6 ∈ p) ∨ (3 ∈ p ∧ 4 ∈ p ∧ 5 ∈ p ∧ 6 ∉ p) ∨ (3 ∈ p ∧ 4 ∈ p ∧ 5 ∉ p ∧ 6 ∉ p) ∨ (3 ∈ p ∧ 4 ∉ p ∧ 5 ∉ p ∧ 6 ∉ p) ∨ (3 ∉ p ∧ 4 ∉ p ∧ 5 ∉ p ∧ 6 ∉ p) := by
      by_cases c3 : 3 ∈ p
      · by_cases c4 : 4 ∈ p
        · by_cases c5 : 5 ∈ p
          · by_cases c6 : 6 ∈ p
            · exact .inl ⟨c3, c4, c5, c6⟩
            · exact .inr (.inl ⟨c3, c4, c5, c6⟩)
          · exact .inr (.inr (.inl ⟨c3, c4, c5, fun h => c5 (e56 h)⟩))
        · exact .inr (.inr (.inr (.inl ⟨c3, c4, fun h => c4 (e45 h), fun h => c4 (e45 (e56 h))⟩)))
      · exact .inr (.inr (.inr (.inr ⟨c3, fun h => c3 (e34 h), fun h => c3 (e34 (e45 h)), fun h => c3 (e34 (e45 (e56 h)))⟩)))
    have wcall : ∀ {M : List (Nat × SObj)} {n : Nat} (ρ : Env) (w1 : World), Sx.look M 3 = some (.row 8 N.length ((N.flatMap Prm.vals).map .v) 88) → Sx.look M 1 = some (.rwin 4 S.length (S.flatMap Syn.vals)) → WI w [] ρ (Sx.look M) (· < n) w1 → Calls Try.prog 53 (SV.concs ρ [.agg [.opq 3, ii inp, .opq 1]]).toArray w1 fun en w' => ∃ b, en = .returned (.map (some b)) ∧ Ext w1 w' ∧ SwinAt w' (fun x => w1.heap.size ≤ x ∧ x < w'.heap.size) b 4 (fun k => (synAt S k).length) fun k => (synAt S k).flatMap Syn.vals := fun ρ w1 m3 m1 hW => by
      have r3 := hW.rowsAtR m3 (by decide)
      rw [concs_v] at r3
      exact wires_run ((SV.opq 3).conc ρ) ((SV.opq 1).conc ρ) ⟨N, inp, S⟩ w1 ⟨r3, hW.rowsAt m1⟩ hS
    rcases five with ⟨c3, c4, c5, c6⟩ | ⟨c3, c4, c5, c6⟩ | ⟨c3, c4, c5, c6⟩ | ⟨c3, c4, c5, c6⟩ | ⟨c3, c4, c5, c6⟩ <;> by_cases c0 : 0 ∈ p
    · refine Run.perm (hc w []) [0, 1, 3, 4, 5, 6] [2, 7, 8, 9] hp ⟨c0, b1, c3, c4, c5, c6, trivial⟩ ⟨hsp, n7, n8, n9, trivial⟩ (by decide) rfl ?_
      conv => whnf
      rw [opF_make2 (m := N.length) rfl rfl rfl rfl rfl rfl (by omega) (by omega)]
      conv => whnf
      refine ⟨by kernel_rfl, ?_⟩
      refine Run.callS (g := 53) (vs := [.agg [.opq 3, ii inp, .opq 1]]) rfl (fun ρ w1 hW => wcall ρ w1 rfl rfl hW) (ent _ _ Try.func53 (by kernel_rfl) rfl) rfl rfl rfl rfl rfl rfl rfl [2, 3, 10] [(10, .row 2 N.length ((List.replicate N.length ()).flatMap fun _ => [SV.v (.int .i64 0), SV.v (.int .i64 0)]) 119), (2, .cells [.opq 3, ii inp, .opq 1] 57), (3, .row 8 N.length ((N.flatMap Prm.vals).map .v) 88)] (AllP.mem ⟨⟨rfl, rfl, .inr (by simp), fun h => by cases h⟩, ⟨rfl, rfl, .inr (by simp), fun h => by cases h⟩, ⟨rfl, rfl, .inr (by simp), fun h => by cases h⟩, trivial⟩) [(1, .ptr 2 0), (9, .agg [.opq 3, ii inp, .opq 1]), (15, .opq 10)] (AllP.mem ⟨⟨rfl, (show 2 < 14 by decide)⟩, ⟨rfl, ⟨(show 3 < 14 by decide), trivial, (show 1 < 14 by decide), trivial⟩⟩, ⟨rfl, (show 10 < 14 by decide)⟩, trivial⟩) fun w1 L1 hE1 hL1 => ?_
      rw [← List.append_nil r]
      refine Run.perm (hc w1 L1) [7, 8, 9] [0, 1, 2, 3, 4, 5, 6] hr ⟨a7, a8, a9, trivial⟩ ⟨dis 0 (by decide) c0, dis 1 (by decide) b1, hsr, dis 3 (by decide) c3, dis 4 (by decide) c4, dis 5 (by decide) c5, dis 6 (by decide) c6, trivial⟩ (by decide) rfl ?_
      conv => whnf
      refine ⟨by kernel_rfl, ?_⟩
      refine Run.of_wpK (hc w1 L1) 4 _ ?_
      conv => whnf
      have hLm : ∀ p ∈ L1, (p.1 = 2 ∨ p.1 = 3 ∨ p.1 = 10) ∧ w.heap.size ≤ p.2 := fun p hp => ⟨by have := (hL1 p hp).1; simp at this; omega, (hL1 p hp).2.2⟩
      refine Run.trimQH (cont w1 L1 ⟨hE1, hLm⟩) (rq [(12, 23), (23, 12), (6, 14), (14, 6)]) ?_ ?_ ?_ ?_
      · intro i hi j hj hne he
        have inv : ∀ i, i < 64 → rq [(12, 23), (23, 12), (6, 14), (14, 6)] (rq [(12, 23), (23, 12), (6, 14), (14, 6)] i) = i := by decide
        exact hne (by rw [← inv i hi, he, inv j hj])
      · exact ⟨⟨rfl, (show 2 < 64 by decide)⟩, ⟨rfl, (show 12 < 64 by decide)⟩, trivial⟩
      · exact ⟨⟨rfl, by omega, (show 3 < 64 by decide), trivial, (show 1 < 64 by decide), (show 6 < 64 by decide), trivial, (show 10 < 64 by decide), ringC_sc (by decide)⟩, ⟨congrArg some (by show SObj.row 2 N.length _ 119 = SObj.row 2 N.length (SV.rens _ _) 119; rw [st_rep]; exact congrArg (fun x => SObj.row 2 N.length x 119) (rens_fix (S := fun _ => False) (fun i hi => hi.elim) _ (scs_st _ _)).symm), by omega, scs_st _ _⟩, ⟨rfl, by omega, trivial⟩, ⟨rfl, by omega, (show 3 < 64 by decide), trivial, (show 1 < 64 by decide), trivial⟩, ⟨congrArg some (oren_fix (S := fun _ => False) (fun i hi => hi.elim) (o := .row 8 N.length ((N.flatMap Prm.vals).map .v) 88) (scs_v _ _)).symm, by omega, scs_v _ _⟩, trivial⟩
      · intro p hp
        have hm := (hL1 p hp).1
        simp only [List.mem_cons, List.not_mem_nil, or_false] at hm
        rcases hm with e | e | e <;> rw [e] <;> exact ⟨by decide, by decide⟩
    · refine Run.perm (hc w []) [1, 3, 4, 5, 6] [0, 2, 7, 8, 9] hp ⟨b1, c3, c4, c5, c6, trivial⟩ ⟨c0, hsp, n7, n8, n9, trivial⟩ (by decide) rfl ?_
      conv => whnf
      rw [opF_make2 (m := N.length) rfl rfl rfl rfl rfl rfl (by omega) (by omega)]
      conv => whnf
      refine ⟨by kernel_rfl, ?_⟩
      refine Run.callS (g := 53) (vs := [.agg [.opq 3, ii inp, .opq 1]]) rfl (fun ρ w1 hW => wcall ρ w1 rfl rfl hW) (ent _ _ Try.func53 (by kernel_rfl) rfl) rfl rfl rfl rfl rfl rfl rfl [2, 3, 10] [(10, .row 2 N.length ((List.replicate N.length ()).flatMap fun _ => [SV.v (.int .i64 0), SV.v (.int .i64 0)]) 119), (2, .cells [.opq 3, ii inp, .opq 1] 57), (3, .row 8 N.length ((N.flatMap Prm.vals).map .v) 88)] (AllP.mem ⟨⟨rfl, rfl, .inr (by simp), fun h => by cases h⟩, ⟨rfl, rfl, .inr (by simp), fun h => by cases h⟩, ⟨rfl, rfl, .inr (by simp), fun h => by cases h⟩, trivial⟩) [(1, .ptr 2 0), (15, .opq 10)] (AllP.mem ⟨⟨rfl, (show 2 < 14 by decide)⟩, ⟨rfl, (show 10 < 14 by decide)⟩, trivial⟩) fun w1 L1 hE1 hL1 => ?_
      rw [← List.append_nil r]
      refine Run.perm (hc w1 L1) [0, 7, 8, 9] [1, 2, 3, 4, 5, 6] hr ⟨inr 0 (by decide) (by decide) c0, a7, a8, a9, trivial⟩ ⟨dis 1 (by decide) b1, hsr, dis 3 (by decide) c3, dis 4 (by decide) c4, dis 5 (by decide) c5, dis 6 (by decide) c6, trivial⟩ (by decide) rfl ?_
      conv => whnf
      refine ⟨by kernel_rfl, ?_⟩
      refine Run.of_wpK (hc w1 L1) 4 _ ?_
      conv => whnf
      have hLm : ∀ p ∈ L1, (p.1 = 2 ∨ p.1 = 3 ∨ p.1 = 10) ∧ w.heap.size ≤ p.2 := fun p hp => ⟨by have := (hL1 p hp).1; simp at this; omega, (hL1 p hp).2.2⟩
      refine Run.trimQH (cont w1 L1 ⟨hE1, hLm⟩) (rq [(12, 23), (23, 12), (6, 14), (14, 6)]) ?_ ?_ ?_ ?_
      · intro i hi j hj hne he
        have inv : ∀ i, i < 64 → rq [(12, 23), (23, 12), (6, 14), (14, 6)] (rq [(12, 23), (23, 12), (6, 14), (14, 6)] i) = i := by decide
        exact hne (by rw [← inv i hi, he, inv j hj])
      · exact ⟨⟨rfl, (show 2 < 64 by decide)⟩, ⟨rfl, (show 12 < 64 by decide)⟩, trivial⟩
      · exact ⟨⟨rfl, by omega, (show 3 < 64 by decide), trivial, (show 1 < 64 by decide), (show 6 < 64 by decide), trivial, (show 10 < 64 by decide), ringC_sc (by decide)⟩, ⟨congrArg some (by show SObj.row 2 N.length _ 119 = SObj.row 2 N.length (SV.rens _ _) 119; rw [st_rep]; exact congrArg (fun x => SObj.row 2 N.length x 119) (rens_fix (S := fun _ => False) (fun i hi => hi.elim) _ (scs_st _ _)).symm), by omega, scs_st _ _⟩, ⟨rfl, by omega, trivial⟩, ⟨rfl, by omega, (show 3 < 64 by decide), trivial, (show 1 < 64 by decide), trivial⟩, ⟨congrArg some (oren_fix (S := fun _ => False) (fun i hi => hi.elim) (o := .row 8 N.length ((N.flatMap Prm.vals).map .v) 88) (scs_v _ _)).symm, by omega, scs_v _ _⟩, trivial⟩
      · intro p hp
        have hm := (hL1 p hp).1
        simp only [List.mem_cons, List.not_mem_nil, or_false] at hm
        rcases hm with e | e | e <;> rw [e] <;> exact ⟨by decide, by decide⟩
    · refine Run.perm (hc w []) [0, 1, 3, 4, 5] [2, 6, 7, 8, 9] hp ⟨c0, b1, c3, c4, c5, trivial⟩ ⟨hsp, c6, n7, n8, n9, trivial⟩ (by decide) rfl ?_
      conv => whnf
      refine ⟨by kernel_rfl, ?_⟩
      refine Run.callS (g := 53) (vs := [.agg [.opq 3, ii inp, .opq 1]]) rfl (fun ρ w1 hW => wcall ρ w1 rfl rfl hW) (ent _ _ Try.func53 (by kernel_rfl) rfl) rfl rfl rfl rfl rfl rfl rfl [2, 3] [(2, .cells [.opq 3, ii inp, .opq 1] 57), (3, .row 8 N.length ((N.flatMap Prm.vals).map .v) 88)] (AllP.mem ⟨⟨rfl, rfl, .inr (by simp), fun h => by cases h⟩, ⟨rfl, rfl, .inr (by simp), fun h => by cases h⟩, trivial⟩) [(1, .ptr 2 0), (9, .agg [.opq 3, ii inp, .opq 1]), (14, ii (N.length : Int))] (AllP.mem ⟨⟨rfl, (show 2 < 14 by decide)⟩, ⟨rfl, ⟨(show 3 < 14 by decide), trivial, (show 1 < 14 by decide), trivial⟩⟩, ⟨rfl, trivial⟩, trivial⟩) fun w1 L1 hE1 hL1 => ?_
      rw [← List.append_nil r]
      refine Run.perm (hc w1 L1) [6, 7, 8, 9] [0, 1, 2, 3, 4, 5] hr ⟨inr 6 (by decide) (by decide) c6, a7, a8, a9, trivial⟩ ⟨dis 0 (by decide) c0, dis 1 (by decide) b1, hsr, dis 3 (by decide) c3, dis 4 (by decide) c4, dis 5 (by decide) c5, trivial⟩ (by decide) rfl ?_
      conv => whnf
      rw [opF_make2 (m := N.length) rfl rfl rfl rfl rfl rfl (by omega) (by omega)]
      conv => whnf
      refine ⟨by kernel_rfl, ?_⟩
      refine Run.of_wpK (hc w1 L1) 4 _ ?_
      conv => whnf
      have hLm : ∀ p ∈ L1, (p.1 = 2 ∨ p.1 = 3 ∨ p.1 = 10) ∧ w.heap.size ≤ p.2 := fun p hp => ⟨by have := (hL1 p hp).1; simp at this; omega, (hL1 p hp).2.2⟩
      refine Run.trimQH (cont w1 L1 ⟨hE1, hLm⟩) (rq [(12, 23), (23, 12), (6, 14), (14, 6), (10, 21), (21, 10)]) ?_ ?_ ?_ ?_
      · intro i hi j hj hne he
        have inv : ∀ i, i < 64 → rq [(12, 23), (23, 12), (6, 14), (14, 6), (10, 21), (21, 10)] (rq [(12, 23), (23, 12), (6, 14), (14, 6), (10, 21), (21, 10)] i) = i := by decide
        exact hne (by rw [← inv i hi, he, inv j hj])
      · exact ⟨⟨rfl, (show 2 < 64 by decide)⟩, ⟨rfl, (show 12 < 64 by decide)⟩, trivial⟩
      · exact ⟨⟨rfl, by omega, (show 3 < 64 by decide), trivial, (show 1 < 64 by decide), (show 6 < 64 by decide), trivial, (show 10 < 64 by decide), ringC_sc (by decide)⟩, ⟨congrArg some (by show SObj.row 2 N.length _ 119 = SObj.row 2 N.length (SV.rens _ _) 119; rw [st_rep]; exact congrArg (fun x => SObj.row 2 N.length x 119) (rens_fix (S := fun _ => False) (fun i hi => hi.elim) _ (scs_st _ _)).symm), by omega, scs_st _ _⟩, ⟨rfl, by omega, trivial⟩, ⟨rfl, by omega, (show 3 < 64 by decide), trivial, (show 1 < 64 by decide), trivial⟩, ⟨congrArg some (oren_fix (S := fun _ => False) (fun i hi => hi.elim) (o := .row 8 N.length ((N.flatMap Prm.vals).map .v) 88) (scs_v _ _)).symm, by omega, scs_v _ _⟩, trivial⟩
      · intro p hp
        have hm := (hL1 p hp).1
        simp only [List.mem_cons, List.not_mem_nil, or_false] at hm
        rcases hm with e | e <;> rw [e] <;> exact ⟨by decide, by decide⟩
    · refine Run.perm (hc w []) [1, 3, 4, 5] [0, 2, 6, 7, 8, 9] hp ⟨b1, c3, c4, c5, trivial⟩ ⟨c0, hsp, c6, n7, n8, n9, trivial⟩ (by decide) rfl ?_
      conv => whnf
      refine ⟨by kernel_rfl, ?_⟩
      refine Run.callS (g := 53) (vs := [.agg [.opq 3, ii inp, .opq 1]]) rfl (fun ρ w1 hW => wcall ρ w1 rfl rfl hW) (ent _ _ Try.func53 (by kernel_rfl) rfl) rfl rfl rfl rfl rfl rfl rfl [2, 3] [(2, .cells [.opq 3, ii inp, .opq 1] 57), (3, .row 8 N.length ((N.flatMap Prm.vals).map .v) 88)] (AllP.mem ⟨⟨rfl, rfl, .inr (by simp), fun h => by cases h⟩, ⟨rfl, rfl, .inr (by simp), fun h => by cases h⟩, trivial⟩) [(1, .ptr 2 0), (14, ii (N.length : Int))] (AllP.mem ⟨⟨rfl, (show 2 < 14 by decide)⟩, ⟨rfl, trivial⟩, trivial⟩) fun w1 L1 hE1 hL1 => ?_
      rw [← List.append_nil r]
      refine Run.perm (hc w1 L1) [0, 6, 7, 8, 9] [1, 2, 3, 4, 5] hr ⟨inr 0 (by decide) (by decide) c0, inr 6 (by decide) (by decide) c6, a7, a8, a9, trivial⟩ ⟨dis 1 (by decide) b1, hsr, dis 3 (by decide) c3, dis 4 (by decide) c4, dis 5 (by decide) c5, trivial⟩ (by decide) rfl ?_
      conv => whnf
      rw [opF_make2 (m := N.length) rfl rfl rfl rfl rfl rfl (by omega) (by omega)]
      conv => whnf
      refine ⟨by kernel_rfl, ?_⟩
      refine Run.of_wpK (hc w1 L1) 4 _ ?_
      conv => whnf
      have hLm : ∀ p ∈ L1, (p.1 = 2 ∨ p.1 = 3 ∨ p.1 = 10) ∧ w.heap.size ≤ p.2 := fun p hp => ⟨by have := (hL1 p hp).1; simp at this; omega, (hL1 p hp).2.2⟩
      refine Run.trimQH (cont w1 L1 ⟨hE1, hLm⟩) (rq [(12, 23), (23, 12), (6, 14), (14, 6), (10, 21), (21, 10)]) ?_ ?_ ?_ ?_
      · intro i hi j hj hne he
        have inv : ∀ i, i < 64 → rq [(12, 23), (23, 12), (6, 14), (14, 6), (10, 21), (21, 10)] (rq [(12, 23), (23, 12), (6, 14), (14, 6), (10, 21), (21, 10)] i) = i := by decide
        exact hne (by rw [← inv i hi, he, inv j hj])
      · exact ⟨⟨rfl, (show 2 < 64 by decide)⟩, ⟨rfl, (show 12 < 64 by decide)⟩, trivial⟩
      · exact ⟨⟨rfl, by omega, (show 3 < 64 by decide), trivial, (show 1 < 64 by decide), (show 6 < 64 by decide), trivial, (show 10 < 64 by decide), ringC_sc (by decide)⟩, ⟨congrArg some (by show SObj.row 2 N.length _ 119 = SObj.row 2 N.length (SV.rens _ _) 119; rw [st_rep]; exact congrArg (fun x => SObj.row 2 N.length x 119) (rens_fix (S := fun _ => False) (fun i hi => hi.elim) _ (scs_st _ _)).symm), by omega, scs_st _ _⟩, ⟨rfl, by omega, trivial⟩, ⟨rfl, by omega, (show 3 < 64 by decide), trivial, (show 1 < 64 by decide), trivial⟩, ⟨congrArg some (oren_fix (S := fun _ => False) (fun i hi => hi.elim) (o := .row 8 N.length ((N.flatMap Prm.vals).map .v) 88) (scs_v _ _)).symm, by omega, scs_v _ _⟩, trivial⟩
      · intro p hp
        have hm := (hL1 p hp).1
        simp only [List.mem_cons, List.not_mem_nil, or_false] at hm
        rcases hm with e | e <;> rw [e] <;> exact ⟨by decide, by decide⟩
    · refine Run.perm (hc w []) [0, 1, 3, 4] [2, 5, 6, 7, 8, 9] hp ⟨c0, b1, c3, c4, trivial⟩ ⟨hsp, c5, c6, n7, n8, n9, trivial⟩ (by decide) rfl ?_
      conv => whnf
      refine ⟨by kernel_rfl, ?_⟩
      refine Run.callS (g := 53) (vs := [.agg [.opq 3, ii inp, .opq 1]]) rfl (fun ρ w1 hW => wcall ρ w1 rfl rfl hW) (ent _ _ Try.func53 (by kernel_rfl) rfl) rfl rfl rfl rfl rfl rfl rfl [2, 3] [(2, .cells [.opq 3, ii inp, .opq 1] 57), (3, .row 8 N.length ((N.flatMap Prm.vals).map .v) 88)] (AllP.mem ⟨⟨rfl, rfl, .inr (by simp), fun h => by cases h⟩, ⟨rfl, rfl, .inr (by simp), fun h => by cases h⟩, trivial⟩) [(1, .ptr 2 0), (9, .agg [.opq 3, ii inp, .opq 1]), (13, .opq 3)] (AllP.mem ⟨⟨rfl, (show 2 < 14 by decide)⟩, ⟨rfl, ⟨(show 3 < 14 by decide), trivial, (show 1 < 14 by decide), trivial⟩⟩, ⟨rfl, (show 3 < 14 by decide)⟩, trivial⟩) fun w1 L1 hE1 hL1 => ?_
      rw [← List.append_nil r]
      refine Run.perm (hc w1 L1) [5, 6, 7, 8, 9] [0, 1, 2, 3, 4] hr ⟨inr 5 (by decide) (by decide) c5, inr 6 (by decide) (by decide) c6, a7, a8, a9, trivial⟩ ⟨dis 0 (by decide) c0, dis 1 (by decide) b1, hsr, dis 3 (by decide) c3, dis 4 (by decide) c4, trivial⟩ (by decide) rfl ?_
      conv => whnf
      rw [opF_make2 (m := N.length) rfl rfl rfl rfl rfl rfl (by omega) (by omega)]
      conv => whnf
      refine ⟨by kernel_rfl, ?_⟩
      refine Run.of_wpK (hc w1 L1) 4 _ ?_
      conv => whnf
      have hLm : ∀ p ∈ L1, (p.1 = 2 ∨ p.1 = 3 ∨ p.1 = 10) ∧ w.heap.size ≤ p.2 := fun p hp => ⟨by have := (hL1 p hp).1; simp at this; omega, (hL1 p hp).2.2⟩
      refine Run.trimQH (cont w1 L1 ⟨hE1, hLm⟩) (rq [(12, 23), (23, 12), (6, 14), (14, 6), (10, 21), (21, 10)]) ?_ ?_ ?_ ?_
      · intro i hi j hj hne he
        have inv : ∀ i, i < 64 → rq [(12, 23), (23, 12), (6, 14), (14, 6), (10, 21), (21, 10)] (rq [(12, 23), (23, 12), (6, 14), (14, 6), (10, 21), (21, 10)] i) = i := by decide
        exact hne (by rw [← inv i hi, he, inv j hj])
      · exact ⟨⟨rfl, (show 2 < 64 by decide)⟩, ⟨rfl, (show 12 < 64 by decide)⟩, trivial⟩
      · exact ⟨⟨rfl, by omega, (show 3 < 64 by decide), trivial, (show 1 < 64 by decide), (show 6 < 64 by decide), trivial, (show 10 < 64 by decide), ringC_sc (by decide)⟩, ⟨congrArg some (by show SObj.row 2 N.length _ 119 = SObj.row 2 N.length (SV.rens _ _) 119; rw [st_rep]; exact congrArg (fun x => SObj.row 2 N.length x 119) (rens_fix (S := fun _ => False) (fun i hi => hi.elim) _ (scs_st _ _)).symm), by omega, scs_st _ _⟩, ⟨rfl, by omega, trivial⟩, ⟨rfl, by omega, (show 3 < 64 by decide), trivial, (show 1 < 64 by decide), trivial⟩, ⟨congrArg some (oren_fix (S := fun _ => False) (fun i hi => hi.elim) (o := .row 8 N.length ((N.flatMap Prm.vals).map .v) 88) (scs_v _ _)).symm, by omega, scs_v _ _⟩, trivial⟩
      · intro p hp
        have hm := (hL1 p hp).1
        simp only [List.mem_cons, List.not_mem_nil, or_false] at hm
        rcases hm with e | e <;> rw [e] <;> exact ⟨by decide, by decide⟩
    · refine Run.perm (hc w []) [1, 3, 4] [0, 2, 5, 6, 7, 8, 9] hp ⟨b1, c3, c4, trivial⟩ ⟨c0, hsp, c5, c6, n7, n8, n9, trivial⟩ (by decide) rfl ?_
      conv => whnf
      refine ⟨by kernel_rfl, ?_⟩
      refine Run.callS (g := 53) (vs := [.agg [.opq 3, ii inp, .opq 1]]) rfl (fun ρ w1 hW => wcall ρ w1 rfl rfl hW) (ent _ _ Try.func53 (by kernel_rfl) rfl) rfl rfl rfl rfl rfl rfl rfl [2, 3] [(2, .cells [.opq 3, ii inp, .opq 1] 57), (3, .row 8 N.length ((N.flatMap Prm.vals).map .v) 88)] (AllP.mem ⟨⟨rfl, rfl, .inr (by simp), fun h => by cases h⟩, ⟨rfl, rfl, .inr (by simp), fun h => by cases h⟩, trivial⟩) [(1, .ptr 2 0), (13, .opq 3)] (AllP.mem ⟨⟨rfl, (show 2 < 14 by decide)⟩, ⟨rfl, (show 3 < 14 by decide)⟩, trivial⟩) fun w1 L1 hE1 hL1 => ?_
      rw [← List.append_nil r]
      refine Run.perm (hc w1 L1) [0, 5, 6, 7, 8, 9] [1, 2, 3, 4] hr ⟨inr 0 (by decide) (by decide) c0, inr 5 (by decide) (by decide) c5, inr 6 (by decide) (by decide) c6, a7, a8, a9, trivial⟩ ⟨dis 1 (by decide) b1, hsr, dis 3 (by decide) c3, dis 4 (by decide) c4, trivial⟩ (by decide) rfl ?_
      conv => whnf
      rw [opF_make2 (m := N.length) rfl rfl rfl rfl rfl rfl (by omega) (by omega)]
      conv => whnf
      refine ⟨by kernel_rfl, ?_⟩
      refine Run.of_wpK (hc w1 L1) 4 _ ?_
      conv => whnf
      have hLm : ∀ p ∈ L1, (p.1 = 2 ∨ p.1 = 3 ∨ p.1 = 10) ∧ w.heap.size ≤ p.2 := fun p hp => ⟨by have := (hL1 p hp).1; simp at this; omega, (hL1 p hp).2.2⟩
      refine Run.trimQH (cont w1 L1 ⟨hE1, hLm⟩) (rq [(12, 23), (23, 12), (6, 14), (14, 6), (10, 21), (21, 10)]) ?_ ?_ ?_ ?_
      · intro i hi j hj hne he
        have inv : ∀ i, i < 64 → rq [(12, 23), (23, 12), (6, 14), (14, 6), (10, 21), (21, 10)] (rq [(12, 23), (23, 12), (6, 14), (14, 6), (10, 21), (21, 10)] i) = i := by decide
        exact hne (by rw [← inv i hi, he, inv j hj])
      · exact ⟨⟨rfl, (show 2 < 64 by decide)⟩, ⟨rfl, (show 12 < 64 by decide)⟩, trivial⟩
      · exact ⟨⟨rfl, by omega, (show 3 < 64 by decide), trivial, (show 1 < 64 by decide), (show 6 < 64 by decide), trivial, (show 10 < 64 by decide), ringC_sc (by decide)⟩, ⟨congrArg some (by show SObj.row 2 N.length _ 119 = SObj.row 2 N.length (SV.rens _ _) 119; rw [st_rep]; exact congrArg (fun x => SObj.row 2 N.length x 119) (rens_fix (S := fun _ => False) (fun i hi => hi.elim) _ (scs_st _ _)).symm), by omega, scs_st _ _⟩, ⟨rfl, by omega, trivial⟩, ⟨rfl, by omega, (show 3 < 64 by decide), trivial, (show 1 < 64 by decide), trivial⟩, ⟨congrArg some (oren_fix (S := fun _ => False) (fun i hi => hi.elim) (o := .row 8 N.length ((N.flatMap Prm.vals).map .v) 88) (scs_v _ _)).symm, by omega, scs_v _ _⟩, trivial⟩
      · intro p hp
        have hm := (hL1 p hp).1
        simp only [List.mem_cons, List.not_mem_nil, or_false] at hm
        rcases hm with e | e <;> rw [e] <;> exact ⟨by decide, by decide⟩
    · refine Run.perm (hc w []) [0, 1, 3] [2, 4, 5, 6, 7, 8, 9] hp ⟨c0, b1, c3, trivial⟩ ⟨hsp, c4, c5, c6, n7, n8, n9, trivial⟩ (by decide) rfl ?_
      conv => whnf
      refine ⟨by kernel_rfl, ?_⟩
      refine Run.callS (g := 53) (vs := [.agg [.opq 3, ii inp, .opq 1]]) rfl (fun ρ w1 hW => wcall ρ w1 rfl rfl hW) (ent _ _ Try.func53 (by kernel_rfl) rfl) rfl rfl rfl rfl rfl rfl rfl [2, 3] [(2, .cells [.opq 3, ii inp, .opq 1] 57), (3, .row 8 N.length ((N.flatMap Prm.vals).map .v) 88)] (AllP.mem ⟨⟨rfl, rfl, .inr (by simp), fun h => by cases h⟩, ⟨rfl, rfl, .inr (by simp), fun h => by cases h⟩, trivial⟩) [(1, .ptr 2 0), (9, .agg [.opq 3, ii inp, .opq 1]), (12, .ptr 2 0)] (AllP.mem ⟨⟨rfl, (show 2 < 14 by decide)⟩, ⟨rfl, ⟨(show 3 < 14 by decide), trivial, (show 1 < 14 by decide), trivial⟩⟩, ⟨rfl, (show 2 < 14 by decide)⟩, trivial⟩) fun w1 L1 hE1 hL1 => ?_
      rw [← List.append_nil r]
      refine Run.perm (hc w1 L1) [4, 5, 6, 7, 8, 9] [0, 1, 2, 3] hr ⟨inr 4 (by decide) (by decide) c4, inr 5 (by decide) (by decide) c5, inr 6 (by decide) (by decide) c6, a7, a8, a9, trivial⟩ ⟨dis 0 (by decide) c0, dis 1 (by decide) b1, hsr, dis 3 (by decide) c3, trivial⟩ (by decide) rfl ?_
      conv => whnf
      rw [opF_make2 (m := N.length) rfl rfl rfl rfl rfl rfl (by omega) (by omega)]
      conv => whnf
      refine ⟨by kernel_rfl, ?_⟩
      refine Run.of_wpK (hc w1 L1) 4 _ ?_
      conv => whnf
      have hLm : ∀ p ∈ L1, (p.1 = 2 ∨ p.1 = 3 ∨ p.1 = 10) ∧ w.heap.size ≤ p.2 := fun p hp => ⟨by have := (hL1 p hp).1; simp at this; omega, (hL1 p hp).2.2⟩
      refine Run.trimQH (cont w1 L1 ⟨hE1, hLm⟩) (rq [(12, 23), (23, 12), (6, 14), (14, 6), (10, 21), (21, 10)]) ?_ ?_ ?_ ?_
      · intro i hi j hj hne he
        have inv : ∀ i, i < 64 → rq [(12, 23), (23, 12), (6, 14), (14, 6), (10, 21), (21, 10)] (rq [(12, 23), (23, 12), (6, 14), (14, 6), (10, 21), (21, 10)] i) = i := by decide
        exact hne (by rw [← inv i hi, he, inv j hj])
      · exact ⟨⟨rfl, (show 2 < 64 by decide)⟩, ⟨rfl, (show 12 < 64 by decide)⟩, trivial⟩
      · exact ⟨⟨rfl, by omega, (show 3 < 64 by decide), trivial, (show 1 < 64 by decide), (show 6 < 64 by decide), trivial, (show 10 < 64 by decide), ringC_sc (by decide)⟩, ⟨congrArg some (by show SObj.row 2 N.length _ 119 = SObj.row 2 N.length (SV.rens _ _) 119; rw [st_rep]; exact congrArg (fun x => SObj.row 2 N.length x 119) (rens_fix (S := fun _ => False) (fun i hi => hi.elim) _ (scs_st _ _)).symm), by omega, scs_st _ _⟩, ⟨rfl, by omega, trivial⟩, ⟨rfl, by omega, (show 3 < 64 by decide), trivial, (show 1 < 64 by decide), trivial⟩, ⟨congrArg some (oren_fix (S := fun _ => False) (fun i hi => hi.elim) (o := .row 8 N.length ((N.flatMap Prm.vals).map .v) 88) (scs_v _ _)).symm, by omega, scs_v _ _⟩, trivial⟩
      · intro p hp
        have hm := (hL1 p hp).1
        simp only [List.mem_cons, List.not_mem_nil, or_false] at hm
        rcases hm with e | e <;> rw [e] <;> exact ⟨by decide, by decide⟩
    · refine Run.perm (hc w []) [1, 3] [0, 2, 4, 5, 6, 7, 8, 9] hp ⟨b1, c3, trivial⟩ ⟨c0, hsp, c4, c5, c6, n7, n8, n9, trivial⟩ (by decide) rfl ?_
      conv => whnf
      refine ⟨by kernel_rfl, ?_⟩
      refine Run.callS (g := 53) (vs := [.agg [.opq 3, ii inp, .opq 1]]) rfl (fun ρ w1 hW => wcall ρ w1 rfl rfl hW) (ent _ _ Try.func53 (by kernel_rfl) rfl) rfl rfl rfl rfl rfl rfl rfl [2, 3] [(2, .cells [.opq 3, ii inp, .opq 1] 57), (3, .row 8 N.length ((N.flatMap Prm.vals).map .v) 88)] (AllP.mem ⟨⟨rfl, rfl, .inr (by simp), fun h => by cases h⟩, ⟨rfl, rfl, .inr (by simp), fun h => by cases h⟩, trivial⟩) [(1, .ptr 2 0), (12, .ptr 2 0)] (AllP.mem ⟨⟨rfl, (show 2 < 14 by decide)⟩, ⟨rfl, (show 2 < 14 by decide)⟩, trivial⟩) fun w1 L1 hE1 hL1 => ?_
      rw [← List.append_nil r]
      refine Run.perm (hc w1 L1) [0, 4, 5, 6, 7, 8, 9] [1, 2, 3] hr ⟨inr 0 (by decide) (by decide) c0, inr 4 (by decide) (by decide) c4, inr 5 (by decide) (by decide) c5, inr 6 (by decide) (by decide) c6, a7, a8, a9, trivial⟩ ⟨dis 1 (by decide) b1, hsr, dis 3 (by decide) c3, trivial⟩ (by decide) rfl ?_
      conv => whnf
      rw [opF_make2 (m := N.length) rfl rfl rfl rfl rfl rfl (by omega) (by omega)]
      conv => whnf
      refine ⟨by kernel_rfl, ?_⟩
      refine Run.of_wpK (hc w1 L1) 4 _ ?_
      conv => whnf
      have hLm : ∀ p ∈ L1, (p.1 = 2 ∨ p.1 = 3 ∨ p.1 = 10) ∧ w.heap.size ≤ p.2 := fun p hp => ⟨by have := (hL1 p hp).1; simp at this; omega, (hL1 p hp).2.2⟩
      refine Run.trimQH (cont w1 L1 ⟨hE1, hLm⟩) (rq [(12, 23), (23, 12), (6, 14), (14, 6), (10, 21), (21, 10)]) ?_ ?_ ?_ ?_
      · intro i hi j hj hne he
        have inv : ∀ i, i < 64 → rq [(12, 23), (23, 12), (6, 14), (14, 6), (10, 21), (21, 10)] (rq [(12, 23), (23, 12), (6, 14), (14, 6), (10, 21), (21, 10)] i) = i := by decide
        exact hne (by rw [← inv i hi, he, inv j hj])
      · exact ⟨⟨rfl, (show 2 < 64 by decide)⟩, ⟨rfl, (show 12 < 64 by decide)⟩, trivial⟩
      · exact ⟨⟨rfl, by omega, (show 3 < 64 by decide), trivial, (show 1 < 64 by decide), (show 6 < 64 by decide), trivial, (show 10 < 64 by decide), ringC_sc (by decide)⟩, ⟨congrArg some (by show SObj.row 2 N.length _ 119 = SObj.row 2 N.length (SV.rens _ _) 119; rw [st_rep]; exact congrArg (fun x => SObj.row 2 N.length x 119) (rens_fix (S := fun _ => False) (fun i hi => hi.elim) _ (scs_st _ _)).symm), by omega, scs_st _ _⟩, ⟨rfl, by omega, trivial⟩, ⟨rfl, by omega, (show 3 < 64 by decide), trivial, (show 1 < 64 by decide), trivial⟩, ⟨congrArg some (oren_fix (S := fun _ => False) (fun i hi => hi.elim) (o := .row 8 N.length ((N.flatMap Prm.vals).map .v) 88) (scs_v _ _)).symm, by omega, scs_v _ _⟩, trivial⟩
      · intro p hp
        have hm := (hL1 p hp).1
        simp only [List.mem_cons, List.not_mem_nil, or_false] at hm
        rcases hm with e | e <;> rw [e] <;> exact ⟨by decide, by decide⟩
    · refine Run.perm (hc w []) [0, 1] [2, 3, 4, 5, 6, 7, 8, 9] hp ⟨c0, b1, trivial⟩ ⟨hsp, c3, c4, c5, c6, n7, n8, n9, trivial⟩ (by decide) rfl ?_
      conv => whnf
      refine ⟨by kernel_rfl, ?_⟩
      refine Run.callS (g := 53) (vs := [.agg [.opq 3, ii inp, .opq 1]]) rfl (fun ρ w1 hW => wcall ρ w1 rfl rfl hW) (ent _ _ Try.func53 (by kernel_rfl) rfl) rfl rfl rfl rfl rfl rfl rfl [2, 3] [(2, .cells [.opq 3, ii inp, .opq 1] 57), (3, .row 8 N.length ((N.flatMap Prm.vals).map .v) 88)] (AllP.mem ⟨⟨rfl, rfl, .inr (by simp), fun h => by cases h⟩, ⟨rfl, rfl, .inr (by simp), fun h => by cases h⟩, trivial⟩) [(1, .ptr 2 0), (9, .agg [.opq 3, ii inp, .opq 1])] (AllP.mem ⟨⟨rfl, (show 2 < 14 by decide)⟩, ⟨rfl, ⟨(show 3 < 14 by decide), trivial, (show 1 < 14 by decide), trivial⟩⟩, trivial⟩) fun w1 L1 hE1 hL1 => ?_
      rw [← List.append_nil r]
      refine Run.perm (hc w1 L1) [3, 4, 5, 6, 7, 8, 9] [0, 1, 2] hr ⟨inr 3 (by decide) (by decide) c3, inr 4 (by decide) (by decide) c4, inr 5 (by decide) (by decide) c5, inr 6 (by decide) (by decide) c6, a7, a8, a9, trivial⟩ ⟨dis 0 (by decide) c0, dis 1 (by decide) b1, hsr, trivial⟩ (by decide) rfl ?_
      conv => whnf
      rw [opF_make2 (m := N.length) rfl rfl rfl rfl rfl rfl (by omega) (by omega)]
      conv => whnf
      refine ⟨by kernel_rfl, ?_⟩
      refine Run.of_wpK (hc w1 L1) 4 _ ?_
      conv => whnf
      have hLm : ∀ p ∈ L1, (p.1 = 2 ∨ p.1 = 3 ∨ p.1 = 10) ∧ w.heap.size ≤ p.2 := fun p hp => ⟨by have := (hL1 p hp).1; simp at this; omega, (hL1 p hp).2.2⟩
      refine Run.trimQH (cont w1 L1 ⟨hE1, hLm⟩) (rq [(12, 23), (23, 12), (6, 14), (14, 6), (10, 21), (21, 10)]) ?_ ?_ ?_ ?_
      · intro i hi j hj hne he
        have inv : ∀ i, i < 64 → rq [(12, 23), (23, 12), (6, 14), (14, 6), (10, 21), (21, 10)] (rq [(12, 23), (23, 12), (6, 14), (14, 6), (10, 21), (21, 10)] i) = i := by decide
        exact hne (by rw [← inv i hi, he, inv j hj])
      · exact ⟨⟨rfl, (show 2 < 64 by decide)⟩, ⟨rfl, (show 12 < 64 by decide)⟩, trivial⟩
      · exact ⟨⟨rfl, by omega, (show 3 < 64 by decide), trivial, (show 1 < 64 by decide), (show 6 < 64 by decide), trivial, (show 10 < 64 by decide), ringC_sc (by decide)⟩, ⟨congrArg some (by show SObj.row 2 N.length _ 119 = SObj.row 2 N.length (SV.rens _ _) 119; rw [st_rep]; exact congrArg (fun x => SObj.row 2 N.length x 119) (rens_fix (S := fun _ => False) (fun i hi => hi.elim) _ (scs_st _ _)).symm), by omega, scs_st _ _⟩, ⟨rfl, by omega, trivial⟩, ⟨rfl, by omega, (show 3 < 64 by decide), trivial, (show 1 < 64 by decide), trivial⟩, ⟨congrArg some (oren_fix (S := fun _ => False) (fun i hi => hi.elim) (o := .row 8 N.length ((N.flatMap Prm.vals).map .v) 88) (scs_v _ _)).symm, by omega, scs_v _ _⟩, trivial⟩
      · intro p hp
        have hm := (hL1 p hp).1
        simp only [List.mem_cons, List.not_mem_nil, or_false] at hm
        rcases hm with e | e <;> rw [e] <;> exact ⟨by decide, by decide⟩
    · refine Run.perm (hc w []) [1] [0, 2, 3, 4, 5, 6, 7, 8, 9] hp ⟨b1, trivial⟩ ⟨c0, hsp, c3, c4, c5, c6, n7, n8, n9, trivial⟩ (by decide) rfl ?_
      conv => whnf
      refine ⟨by kernel_rfl, ?_⟩
      refine Run.callS (g := 53) (vs := [.agg [.opq 3, ii inp, .opq 1]]) rfl (fun ρ w1 hW => wcall ρ w1 rfl rfl hW) (ent _ _ Try.func53 (by kernel_rfl) rfl) rfl rfl rfl rfl rfl rfl rfl [2, 3] [(2, .cells [.opq 3, ii inp, .opq 1] 57), (3, .row 8 N.length ((N.flatMap Prm.vals).map .v) 88)] (AllP.mem ⟨⟨rfl, rfl, .inr (by simp), fun h => by cases h⟩, ⟨rfl, rfl, .inr (by simp), fun h => by cases h⟩, trivial⟩) [(1, .ptr 2 0)] (AllP.mem ⟨⟨rfl, (show 2 < 14 by decide)⟩, trivial⟩) fun w1 L1 hE1 hL1 => ?_
      rw [← List.append_nil r]
      refine Run.perm (hc w1 L1) [0, 3, 4, 5, 6, 7, 8, 9] [1, 2] hr ⟨inr 0 (by decide) (by decide) c0, inr 3 (by decide) (by decide) c3, inr 4 (by decide) (by decide) c4, inr 5 (by decide) (by decide) c5, inr 6 (by decide) (by decide) c6, a7, a8, a9, trivial⟩ ⟨dis 1 (by decide) b1, hsr, trivial⟩ (by decide) rfl ?_
      conv => whnf
      rw [opF_make2 (m := N.length) rfl rfl rfl rfl rfl rfl (by omega) (by omega)]
      conv => whnf
      refine ⟨by kernel_rfl, ?_⟩
      refine Run.of_wpK (hc w1 L1) 4 _ ?_
      conv => whnf
      have hLm : ∀ p ∈ L1, (p.1 = 2 ∨ p.1 = 3 ∨ p.1 = 10) ∧ w.heap.size ≤ p.2 := fun p hp => ⟨by have := (hL1 p hp).1; simp at this; omega, (hL1 p hp).2.2⟩
      refine Run.trimQH (cont w1 L1 ⟨hE1, hLm⟩) (rq [(12, 23), (23, 12), (6, 14), (14, 6), (10, 21), (21, 10)]) ?_ ?_ ?_ ?_
      · intro i hi j hj hne he
        have inv : ∀ i, i < 64 → rq [(12, 23), (23, 12), (6, 14), (14, 6), (10, 21), (21, 10)] (rq [(12, 23), (23, 12), (6, 14), (14, 6), (10, 21), (21, 10)] i) = i := by decide
        exact hne (by rw [← inv i hi, he, inv j hj])
      · exact ⟨⟨rfl, (show 2 < 64 by decide)⟩, ⟨rfl, (show 12 < 64 by decide)⟩, trivial⟩
      · exact ⟨⟨rfl, by omega, (show 3 < 64 by decide), trivial, (show 1 < 64 by decide), (show 6 < 64 by decide), trivial, (show 10 < 64 by decide), ringC_sc (by decide)⟩, ⟨congrArg some (by show SObj.row 2 N.length _ 119 = SObj.row 2 N.length (SV.rens _ _) 119; rw [st_rep]; exact congrArg (fun x => SObj.row 2 N.length x 119) (rens_fix (S := fun _ => False) (fun i hi => hi.elim) _ (scs_st _ _)).symm), by omega, scs_st _ _⟩, ⟨rfl, by omega, trivial⟩, ⟨rfl, by omega, (show 3 < 64 by decide), trivial, (show 1 < 64 by decide), trivial⟩, ⟨congrArg some (oren_fix (S := fun _ => False) (fun i hi => hi.elim) (o := .row 8 N.length ((N.flatMap Prm.vals).map .v) 88) (scs_v _ _)).symm, by omega, scs_v _ _⟩, trivial⟩
      · intro p hp
        have hm := (hL1 p hp).1
        simp only [List.mem_cons, List.not_mem_nil, or_false] at hm
        rcases hm with e | e <;> rw [e] <;> exact ⟨by decide, by decide⟩
  · rintro w1 L1 ⟨hE1, hL1⟩
    have hIn : ∀ i, i ≤ 16 → In 64 ((12, .cells ([.opq 3, ii inp, .opq 1, .mp 6, ii 0, .opq 10] ++ ringC i) 117) :: (10, .row 2 N.length ((List.replicate N.length ste0).flatMap Ste.cells) 119) :: (6, swS S) :: (2, .cells [.opq 3, ii inp, .opq 1] 57) :: (3, .row 8 N.length ((N.flatMap Prm.vals).map .v) 88) :: ringM N.length i) := fun i hi => allP_of fun x hx => by
      simp only [List.mem_cons] at hx
      rcases hx with rfl | rfl | rfl | rfl | rfl | hx
      · exact ⟨by omega, (show 3 < 64 by decide), trivial, (show 1 < 64 by decide), (show 6 < 64 by decide), trivial, (show 10 < 64 by decide), ringC_sc (by decide)⟩
      · exact ⟨by omega, scs_st _ _⟩
      · exact ⟨by omega, trivial⟩
      · exact ⟨by omega, (show 3 < 64 by decide), trivial, (show 1 < 64 by decide), trivial⟩
      · exact ⟨by omega, scs_v _ _⟩
      · obtain ⟨h1, h2, h3⟩ := ringM_mem hi x hx
        exact ⟨by omega, h3 _⟩
    have hL64 : ∀ p ∈ L1, p.1 < 64 := fun p hp => by have := (hL1 p hp).1; omega
    refine Run.of_wpK (hc w1 L1) 1000 _ ?_
    conv => whnf
    refine Run.trimH (T' := [(1, .ptr 2 0), (3, .ptr 12 0), (18, ii ((0 : Nat) : Int))]) (M' := ((12, .cells ([.opq 3, ii inp, .opq 1, .mp 6, ii 0, .opq 10] ++ ringC 0) 117) :: (10, .row 2 N.length ((List.replicate N.length ste0).flatMap Ste.cells) 119) :: (6, swS S) :: (2, .cells [.opq 3, ii inp, .opq 1] 57) :: (3, .row 8 N.length ((N.flatMap Prm.vals).map .v) 88) :: ringM N.length 0)) (n' := 64) ?_ ⟨⟨rfl, (show 2 < 64 by decide)⟩, ⟨rfl, (show 12 < 64 by decide)⟩, ⟨rfl, trivial⟩, trivial⟩ (allP_and (allP_map rfl) (hIn 0 (by decide))) hL64
    refine Run.upToJ (T := fun i => [(1, .ptr 2 0), (3, .ptr 12 0), (18, ii ((i : Nat) : Int))]) (M := fun i => ((12, .cells ([.opq 3, ii inp, .opq 1, .mp 6, ii 0, .opq 10] ++ ringC i) 117) :: (10, .row 2 N.length ((List.replicate N.length ste0).flatMap Ste.cells) 119) :: (6, swS S) :: (2, .cells [.opq 3, ii inp, .opq 1] 57) :: (3, .row 8 N.length ((N.flatMap Prm.vals).map .v) 88) :: ringM N.length i)) (fun _ => True) 16 trivial ?_ ?_
    · intro i hi _ ih
      obtain ⟨r, hr⟩ : ∃ r, r = rq [(30 + i, 69), (69, 30 + i)] := ⟨_, rfl⟩
      have hinv : ∀ q, r (r q) = q := by rw [hr]; exact rq_swap (by omega)
      have hfx : ∀ j, j < 30 → r j = j := fun j hj => by
        rw [hr]
        exact rq_fix (by rw [look_cons, if_neg (by omega), look_cons, if_neg (by omega)]; rfl)
      have hSc1 : AllP (fun x : Nat × SObj => x.2.sc (· < 30)) ((10, .row 2 N.length ((List.replicate N.length ste0).flatMap Ste.cells) 119) :: (6, swS S) :: (2, .cells [.opq 3, ii inp, .opq 1] 57) :: (3, .row 8 N.length ((N.flatMap Prm.vals).map .v) 88) :: ringM N.length (i + 1)) := ⟨scs_st _ _, trivial, ⟨(show 3 < 30 by decide), trivial, (show 1 < 30 by decide), trivial⟩, scs_v _ _, allP_of fun x hx => (ringM_mem (by omega) x hx).2.2 _⟩
      have ih' := ih trivial
      clear ih
      have hIn1 := hIn (i + 1) (by omega)
      clear hIn
      have hlN' : N.length ≤ 1024 := hN
      rcases lt16 hi with rfl | rfl | rfl | rfl | rfl | rfl | rfl | rfl | rfl | rfl | rfl | rfl | rfl | rfl | rfl | rfl
      all_goals
        refine Run.of_wpK (hc w1 L1) 1000 _ ?_
        conv => whnf
        refine Run.draw (hc w1 L1) 10 ?_
        rw [show upto 0 10 = upto 0 6 ++ upto 6 4 from rfl]
        simp only [drawK_app]
        conv => whnf
        rw [opF_make (m := N.length) rfl rfl rfl rfl rfl rfl (by omega) (by omega)]
        conv => whnf
        refine ⟨by decide, ?_⟩
        conv => whnf
        refine ⟨by kernel_rfl, ?_⟩
        refine Run.of_wpK (hc w1 L1) 1000 _ ?_
        conv => whnf
        exact Run.trimQH ih' r (fun a _ b _ hne he => hne (by rw [← hinv a, he, hinv b])) ⟨⟨by rw [hr]; rfl, (show 2 < 64 by decide)⟩, ⟨by rw [hr]; rfl, (show 12 < 64 by decide)⟩, ⟨rfl, trivial⟩, trivial⟩
          (allP_and ⟨by rw [hr]; rfl, allP_imp (p := fun x : Nat × SObj => Sx.look _ (r x.1) = some x.2 ∧ x.2.sc (· < 30)) (fun x hx => Eq.trans hx.1 (congrArg some (oren_on (S := (· < 30)) hfx hx.2).symm)) (allP_and (by rw [hr]; exact allP_map rfl) hSc1)⟩ hIn1) (fun p hp => ⟨hfx _ (by have := (hL1 p hp).1; omega), hL64 p hp⟩)
    · intro _
      have hrep : SObj.row 1 N.length ((List.replicate N.length 0).map fun x => ii x) 3 = SObj.row 1 N.length (List.replicate N.length (ii 0)) 3 := by rw [List.map_replicate]
      refine Run.of_wpK (hc w1 L1) 1000 _ ?_
      conv => whnf
      refine ⟨fun ρ w' hW _ => ?_⟩
      obtain ⟨L2, h1, h2⟩ := hW.enterR (rq [(0, 12), (1, 3), (2, 6), (3, 10), (20, 1), (4, 30), (5, 31), (6, 32), (7, 33), (8, 34), (9, 35), (10, 36), (11, 37), (12, 38), (13, 39), (14, 40), (15, 41), (16, 42), (17, 43), (18, 44), (19, 45)]) (nsimM inp 0 N S (List.replicate N.length ste0) fun _ => List.replicate N.length 0) 21 [0, 3, 4, 5, 6, 7, 8, 9, 10, 11, 12, 13, 14, 15, 16, 17, 18, 19] (fun i hi j hj hne => by
          have inj : ∀ i, i < 21 → ∀ j, j < 21 → i ≠ j → rq [(0, 12), (1, 3), (2, 6), (3, 10), (20, 1), (4, 30), (5, 31), (6, 32), (7, 33), (8, 34), (9, 35), (10, 36), (11, 37), (12, 38), (13, 39), (14, 40), (15, 41), (16, 42), (17, 43), (18, 44), (19, 45)] i ≠ rq [(0, 12), (1, 3), (2, 6), (3, 10), (20, 1), (4, 30), (5, 31), (6, 32), (7, 33), (8, 34), (9, 35), (10, 36), (11, 37), (12, 38), (13, 39), (14, 40), (15, 41), (16, 42), (17, 43), (18, 44), (19, 45)] j := by decide
          exact inj i hi j hj hne) ⟨⟨by omega, SV.scs_lt (by decide) (nsimC_sc _ _), ⟨_, rfl, .inl rfl⟩, .inr (by simp), fun h => by cases h⟩, ⟨by omega, trivial, ⟨_, rfl, Conv.row (by decide) rfl⟩, .inl rfl, fun _ => by simp⟩, ⟨by omega, trivial, ⟨_, rfl, .inl rfl⟩, .inl rfl, fun _ => by simp⟩, ⟨by omega, scs_st _ _, ⟨_, rfl, .inl (oren_fix (S := fun _ => False) (fun i hi => hi.elim) (o := .row 2 N.length ((List.replicate N.length ste0).flatMap Ste.cells) 119) (scs_st _ _))⟩, .inr (by simp), fun h => by cases h⟩, ⟨by omega, scs_i _ _, ⟨_, rfl, .inl ((oren_fix (S := fun _ => False) (fun i hi => hi.elim) (o := .row 1 N.length ((List.replicate N.length 0).map fun x => ii x) 3) (scs_i _ _)).trans hrep)⟩, .inr (by simp), fun h => by cases h⟩, ⟨by omega, scs_i _ _, ⟨_, rfl, .inl ((oren_fix (S := fun _ => False) (fun i hi => hi.elim) (o := .row 1 N.length ((List.replicate N.length 0).map fun x => ii x) 3) (scs_i _ _)).trans hrep)⟩, .inr (by simp), fun h => by cases h⟩, ⟨by omega, scs_i _ _, ⟨_, rfl, .inl ((oren_fix (S := fun _ => False) (fun i hi => hi.elim) (o := .row 1 N.length ((List.replicate N.length 0).map fun x => ii x) 3) (scs_i _ _)).trans hrep)⟩, .inr (by simp), fun h => by cases h⟩, ⟨by omega, scs_i _ _, ⟨_, rfl, .inl ((oren_fix (S := fun _ => False) (fun i hi => hi.elim) (o := .row 1 N.length ((List.replicate N.length 0).map fun x => ii x) 3) (scs_i _ _)).trans hrep)⟩, .inr (by simp), fun h => by cases h⟩, ⟨by omega, scs_i _ _, ⟨_, rfl, .inl ((oren_fix (S := fun _ => False) (fun i hi => hi.elim) (o := .row 1 N.length ((List.replicate N.length 0).map fun x => ii x) 3) (scs_i _ _)).trans hrep)⟩, .inr (by simp), fun h => by cases h⟩, ⟨by omega, scs_i _ _, ⟨_, rfl, .inl ((oren_fix (S := fun _ => False) (fun i hi => hi.elim) (o := .row 1 N.length ((List.replicate N.length 0).map fun x => ii x) 3) (scs_i _ _)).trans hrep)⟩, .inr (by simp), fun h => by cases h⟩, ⟨by omega, scs_i _ _, ⟨_, rfl, .inl ((oren_fix (S := fun _ => False) (fun i hi => hi.elim) (o := .row 1 N.length ((List.replicate N.length 0).map fun x => ii x) 3) (scs_i _ _)).trans hrep)⟩, .inr (by simp), fun h => by cases h⟩, ⟨by omega, scs_i _ _, ⟨_, rfl, .inl ((oren_fix (S := fun _ => False) (fun i hi => hi.elim) (o := .row 1 N.length ((List.replicate N.length 0).map fun x => ii x) 3) (scs_i _ _)).trans hrep)⟩, .inr (by simp), fun h => by cases h⟩, ⟨by omega, scs_i _ _, ⟨_, rfl, .inl ((oren_fix (S := fun _ => False) (fun i hi => hi.elim) (o := .row 1 N.length ((List.replicate N.length 0).map fun x => ii x) 3) (scs_i _ _)).trans hrep)⟩, .inr (by simp), fun h => by cases h⟩, ⟨by omega, scs_i _ _, ⟨_, rfl, .inl ((oren_fix (S := fun _ => False) (fun i hi => hi.elim) (o := .row 1 N.length ((List.replicate N.length 0).map fun x => ii x) 3) (scs_i _ _)).trans hrep)⟩, .inr (by simp), fun h => by cases h⟩, ⟨by omega, scs_i _ _, ⟨_, rfl, .inl ((oren_fix (S := fun _ => False) (fun i hi => hi.elim) (o := .row 1 N.length ((List.replicate N.length 0).map fun x => ii x) 3) (scs_i _ _)).trans hrep)⟩, .inr (by simp), fun h => by cases h⟩, ⟨by omega, scs_i _ _, ⟨_, rfl, .inl ((oren_fix (S := fun _ => False) (fun i hi => hi.elim) (o := .row 1 N.length ((List.replicate N.length 0).map fun x => ii x) 3) (scs_i _ _)).trans hrep)⟩, .inr (by simp), fun h => by cases h⟩, ⟨by omega, scs_i _ _, ⟨_, rfl, .inl ((oren_fix (S := fun _ => False) (fun i hi => hi.elim) (o := .row 1 N.length ((List.replicate N.length 0).map fun x => ii x) 3) (scs_i _ _)).trans hrep)⟩, .inr (by simp), fun h => by cases h⟩, ⟨by omega, scs_i _ _, ⟨_, rfl, .inl ((oren_fix (S := fun _ => False) (fun i hi => hi.elim) (o := .row 1 N.length ((List.replicate N.length 0).map fun x => ii x) 3) (scs_i _ _)).trans hrep)⟩, .inr (by simp), fun h => by cases h⟩, ⟨by omega, scs_i _ _, ⟨_, rfl, .inl ((oren_fix (S := fun _ => False) (fun i hi => hi.elim) (o := .row 1 N.length ((List.replicate N.length 0).map fun x => ii x) 3) (scs_i _ _)).trans hrep)⟩, .inr (by simp), fun h => by cases h⟩, ⟨by omega, scs_i _ _, ⟨_, rfl, .inl ((oren_fix (S := fun _ => False) (fun i hi => hi.elim) (o := .row 1 N.length ((List.replicate N.length 0).map fun x => ii x) 3) (scs_i _ _)).trans hrep)⟩, .inr (by simp), fun h => by cases h⟩, trivial⟩ (fun i hi => by
          have : ∀ i ∈ ([0, 3, 4, 5, 6, 7, 8, 9, 10, 11, 12, 13, 14, 15, 16, 17, 18, 19] : List Nat), i < 21 := by decide
          refine ⟨this i hi, ?_⟩
          simp only [List.mem_cons, List.not_mem_nil, or_false] at hi
          rcases hi with rfl | rfl | rfl | rfl | rfl | rfl | rfl | rfl | rfl | rfl | rfl | rfl | rfl | rfl | rfl | rfl | rfl | rfl <;> exact ⟨_, rfl⟩)
      refine ⟨ρ.ren (rq [(0, 12), (1, 3), (2, 6), (3, 10), (20, 1), (4, 30), (5, 31), (6, 32), (7, 33), (8, 34), (9, 35), (10, 36), (11, 37), (12, 38), (13, 39), (14, 40), (15, 41), (16, 42), (17, 43), (18, 44), (19, 45)]), L2, rfl, hW.backExt hE1 (fun p hp => (hL1 p hp).2), fun p hp => ?_, h2⟩
      obtain ⟨g1, g2, o, g3, g4⟩ := h1 p hp
      have hlt : ∀ i ∈ ([0, 3, 4, 5, 6, 7, 8, 9, 10, 11, 12, 13, 14, 15, 16, 17, 18, 19] : List Nat), i < 21 := by decide
      refine ⟨hlt _ g1, ?_⟩
      rw [g2]
      have hse := hE1.size
      rcases hW.new _ o g3 g4 with ⟨q, hq, hqe⟩ | h
      · rw [← hqe]; exact (hL1 q hq).2
      · have h : w1.heap.size ≤ ρ.s (rq [(0, 12), (1, 3), (2, 6), (3, 10), (20, 1), (4, 30), (5, 31), (6, 32), (7, 33), (8, 34), (9, 35), (10, 36), (11, 37), (12, 38), (13, 39), (14, 40), (15, 41), (16, 42), (17, 43), (18, 44), (19, 45)] p.1) := h
        omega
set_option maxHeartbeats 2000000
/-- A network as one that learns, without rules. -/
def nNet (n : Net) : Lnt := ⟨n, [], List.replicate n.S.length (-1)⟩
theorem netOK_net {n : Net} (h : netChk n = 0) : NetOK (nNet n) := by
  apply netOK_of
  unfold learnChk
  rw [if_neg (by simpa using h), if_neg (by simp), if_neg (show ¬ firstE rchk ([] : List Rul) ≠ 0 from fun h => h rfl), if_neg (by simp)]
  refine firstE_all fun i hi => ?_
  simp only [List.getElem_zip, List.getElem_replicate]
  unfold plErr
  show (if wi (-1) (-1) (W (((0 : Nat) : Int) - 1)) = false then (3 : Int) else if (0 : Int) ≤ -1 then _ else 0) = 0
  rw [if_neg (by decide), if_neg (by decide)]
/-- The states, and what is due, behind some ticks. -/
def nS (n : Net) (l : List Evt) : Nat → List Ste × (Nat → List Int)
  | 0 => (List.replicate n.N.length ste0, fun _ => List.replicate n.N.length 0)
  | i + 1 => ((nB (i : Int) n.N (nS n l i).1 (nS n l i).2).1, nDue (i : Int) n.N n.S (nS n l i).1 (nS n l i).2 (trIn l i))
/-- The neurons that spike in a tick. -/
def nSp (n : Net) (l : List Evt) (i : Nat) : List Int := (nB (i : Int) n.N (nS n l i).1 (nS n l i).2).2.1
/-- The spikes behind some ticks. -/
def nO (n : Net) (l : List Evt) : Nat → List Evt
  | 0 => []
  | i + 1 => nO n l i ++ spk i (nSp n l i)
theorem nSp_len (n : Net) (l : List Evt) (i : Nat) : (nSp n l i).length ≤ n.N.length := nY_out _ _ _ _
theorem nO_len (n : Net) (l : List Evt) : ∀ i, (nO n l i).length ≤ i * n.N.length
  | 0 => by simp [nO]
  | i + 1 => by
    have h1 := nO_len n l i
    have h2 := nSp_len n l i
    simp only [nO, spk, List.length_append, List.length_map]
    rw [Nat.add_mul]; omega
theorem nY_st {N : List Prm} {sums : List Int} {st : List Ste} (h : st.length = N.length) : ∀ j, j ≤ N.length → ∀ i, i < j → (nY N sums st j).1[i]? = (st[i]?).map fun q => stepS (N.getD i prm0) q (sums.getD i 0)
  | 0, _, i, hi => by omega
  | j + 1, hj, i, hi => by
    rw [nY_succ]
    simp only [nStep]
    by_cases e : i = j
    · subst e
      have hl : i < (nY N sums st i).1.length := by rw [nY_len]; omega
      have hl2 : i < st.length := by omega
      have hge := nY_ge N sums st i i (Nat.le_refl _)
      have hgd : (nY N sums st i).1.getD i ste0 = st[i] := by rw [List.getD_eq_getElem?_getD, hge]; simp [hl2]
      rw [List.getElem?_set_self hl, hgd]
      simp [hl2]
    · rw [List.getElem?_set_ne (Ne.symm e)]
      exact nY_st h j (by omega) i (by omega)
theorem trIn_len (l : List Evt) (i : Nat) : (trIn l i).length ≤ l.length := by
  unfold trIn
  rw [idsT_len (nAt_le _ _)]
  exact Nat.le_trans (nAt_le _ _) (evR_len l i)
theorem nS_ok {n : Net} (h : netChk n = 0) {l : List Evt} (hl : l.length ≤ 65536) : ∀ i : Nat, i ≤ 10000 → SimOK (i : Int) n.N n.S (nS n l i).1 (nS n l i).2 (trIn l i).length := by
  have hx := netOK_net h
  have h2 : n.N.length ≤ 1024 := hx.N2
  have h3 : n.S.length ≤ 8192 := hx.S1
  have base : ∀ i : Nat, i ≤ 10000 → (nS n l i).1.length = n.N.length → (∀ j, j < 16 → ((nS n l i).2 j).length = n.N.length) → (∀ k (h : k < n.N.length) (h' : k < (nS n l i).1.length), vld n.N[k] (nS n l i).1[k] = 0) → SimOK (i : Int) n.N n.S (nS n l i).1 (nS n l i).2 (trIn l i).length := fun i hi g1 g2 g3 =>
    ⟨by omega, by omega, g1, g2, h2, h3, by have := trIn_len l i; omega, fun s hs => by obtain ⟨k, hk, rfl⟩ := List.getElem_of_mem hs; exact hx.to0 k hk, fun s hs => by obtain ⟨k, hk, rfl⟩ := List.getElem_of_mem hs; exact hx.to1 k hk, fun s hs => by obtain ⟨k, hk, rfl⟩ := List.getElem_of_mem hs; exact hx.d0 k hk, fun s hs => by obtain ⟨k, hk, rfl⟩ := List.getElem_of_mem hs; exact hx.d1 k hk, g3⟩
  intro i
  induction i with
  | zero =>
    intro _
    refine base 0 (by omega) (by simp [nS]) (fun j _ => by simp [nS]) fun k hk hk' => ?_
    have : (nS n l 0).1[k] = ste0 := by simp [nS]
    rw [this]
    exact vld_start (hx.chk k hk)
  | succ i ih =>
    intro hi
    have hok := ih (by omega)
    refine base (i + 1) hi ((nY_len ..).trans hok.lst) (fun j hj => ?_) fun k hk hk' => ?_
    · exact (dFold_len _ _ _ j).trans (dClr_len hok.ld j hj)
    · have hl : k < (nS n l i).1.length := by rw [hok.lst]; exact hk
      have e2 : (nS n l (i + 1)).1[k]? = some (stepS n.N[k] (nS n l i).1[k] (((nS n l i).2 (slotN (i : Int))).getD k 0)) := by
        refine (nY_st hok.lst n.N.length (Nat.le_refl _) k hk).trans ?_
        rw [List.getElem?_eq_getElem hl]
        simp [List.getD_eq_getElem?_getD, hk]
      have e3 := (List.getElem?_eq_some_iff.1 e2).2
      rw [e3]
      exact vld_step (hok.ok k hk hl) _
theorem prep_facts {n : Net} {l : List Evt} {K : Int} (hp : prepChk n l K 10000 = 0) : netChk n = 0 ∧ 0 ≤ K ∧ K ≤ 10000 ∧ l.length ≤ 65536 := by
  unfold prepChk at hp
  split at hp
  · rename_i h1; exact absurd hp h1
  rename_i h1
  split at hp
  · cases hp
  rename_i h2
  have h2 := wi_iff.1 (by simpa using h2)
  refine ⟨by simpa using h1, h2.1, h2.2, ?_⟩
  unfold evsChk at hp
  split at hp
  · cases hp
  · omega
set_option maxHeartbeats 8000000
theorem nRun_ok (n : Net) (l : List Evt) (K : Nat) (hp : prepChk n l (K : Int) 10000 = 0) (hK : K * n.N.length ≤ 65536) :
    BSpec Try.prog 16 [.agg [.opq 0, ii n.inp, .opq 1], .opq 2, ii (K : Int)] [(0, .rwin 8 n.N.length (n.N.flatMap Prm.vals)), (1, .rwin 4 n.S.length (n.S.flatMap Syn.vals)), (2, .rwin 2 l.length (l.flatMap Evt.vals))] 3 [] (.tup [.opq 3, ii 0])
      [(3, .row 2 (nO n l K).length ((nO n l K).flatMap Evt.cells) 45)] 4 := by
  obtain ⟨hck, hK0, hK1, hll⟩ := prep_facts hp
  have hok := nS_ok hck hll
  have hx := netOK_net hck
  have hlN : n.N.length ≤ 1024 := hx.N2
  have hlS : n.S.length ≤ 8192 := hx.S1
  have hc : ∀ w L' rd, (∀ p, rd = some p → p ∈ L') → Cx.ok ⟨Try.prog, tab, [(2000, fun _ _ => none)], 16, Try.f16, [], w, L', rd⟩ := fun w L' rd h => ⟨tab_ok, ⟨trivial, trivial⟩, Try.func16, mixed, h⟩
  have hc2 : ∀ w L' rd, (∀ p, rd = some p → p ∈ L') → Cx.ok ⟨Try.prog, tab, [(2000, fun _ _ => none)], 37, Try.f37, [], w, L', rd⟩ := fun w L' rd h => ⟨tab_ok, ⟨trivial, trivial⟩, Try.func37, mixed, h⟩
  refine BSpec.start (tab := tab) (pf := [(2000, fun _ _ => none)]) (cuts := []) Try.func16 rfl ⟨⟨(show 0 < 3 by decide), trivial, (show 1 < 3 by decide), trivial⟩, (show 2 < 3 by decide), trivial, trivial⟩ rfl fun w L0 plp hL _ hcov => ?_
  obtain rfl : L0 = [] := List.eq_nil_iff_forall_not_mem.2 fun p hp => by simpa using hL p hp
  refine Run.of_wpK (hc w [] none (fun _ h => by cases h)) 100 _ ?_
  generalize hRR : SpecR _ _ _ _ _ _ = RR
  conv => whnf
  refine Run.callE (g := 34) (vs := [.agg [.opq 0, ii n.inp, .opq 1], .opq 2, ii (K : Int), ii 10000]) (caps := []) (ii 0) (fun ρ w1 hW => by
    have := prepared_run ((SV.opq 0).conc ρ) ((SV.opq 1).conc ρ) n ((SV.opq 2).conc ρ) l (K : Int) 10000 w1 ⟨hW.rowsAt rfl, hW.rowsAt rfl⟩ (hW.rowsAt rfl)
    rw [hp] at this
    exact this) (ent _ _ Try.func34 (by kernel_rfl) rfl) rfl rfl rfl rfl rfl rfl rfl trivial ?_
  refine Run.of_wpK (hc w [] none (fun _ h => by cases h)) 1000 _ ?_
  conv => whnf
  refine Run.callW (g := 35) (vs := [.agg [.opq 0, ii n.inp, .opq 1]]) (caps := []) (fun _ w1 => SimAt w1 n.inp n.N n.S) (fun ρ w1 hW => nstart_run ((SV.opq 0).conc ρ) ((SV.opq 1).conc ρ) n w1 ⟨hW.rowsAt rfl, hW.rowsAt rfl⟩ hlS hlN) (ent _ _ Try.func35 (by kernel_rfl) rfl) rfl rfl rfl rfl rfl rfl rfl (fun ρ w0 en w1 hW hQ => ?_)
  obtain ⟨ρ1, L1, hen, hE, hL1, hW1⟩ := hQ
  obtain ⟨hWj, hagj⟩ := hW.joinW hE hW1 (fun p hp => (hL1 p hp).2) [(5, .cells [.opq 6, ii n.inp, .opq 25, .mp 7, ii 0, .opq 8, .opq 9, .opq 10, .opq 11, .opq 12, .opq 13, .opq 14, .opq 15, .opq 16, .opq 17, .opq 18, .opq 19, .opq 20, .opq 21, .opq 22, .opq 23, .opq 24] 117), (6, .rwin 8 n.N.length (n.N.flatMap Prm.vals)), (7, swS n.S), (8, .row 2 n.N.length ((nS n l 0).1.flatMap Ste.cells) 119), (9, .row 1 n.N.length (((nS n l 0).2 0).map fun x => ii x) 3), (10, .row 1 n.N.length (((nS n l 0).2 1).map fun x => ii x) 3), (11, .row 1 n.N.length (((nS n l 0).2 2).map fun x => ii x) 3), (12, .row 1 n.N.length (((nS n l 0).2 3).map fun x => ii x) 3), (13, .row 1 n.N.length (((nS n l 0).2 4).map fun x => ii x) 3), (14, .row 1 n.N.length (((nS n l 0).2 5).map fun x => ii x) 3), (15, .row 1 n.N.length (((nS n l 0).2 6).map fun x => ii x) 3), (16, .row 1 n.N.length (((nS n l 0).2 7).map fun x => ii x) 3), (17, .row 1 n.N.length (((nS n l 0).2 8).map fun x => ii x) 3), (18, .row 1 n.N.length (((nS n l 0).2 9).map fun x => ii x) 3), (19, .row 1 n.N.length (((nS n l 0).2 10).map fun x => ii x) 3), (20, .row 1 n.N.length (((nS n l 0).2 11).map fun x => ii x) 3), (21, .row 1 n.N.length (((nS n l 0).2 12).map fun x => ii x) 3), (22, .row 1 n.N.length (((nS n l 0).2 13).map fun x => ii x) 3), (23, .row 1 n.N.length (((nS n l 0).2 14).map fun x => ii x) 3), (24, .row 1 n.N.length (((nS n l 0).2 15).map fun x => ii x) 3), (2, .rwin 2 l.length (l.flatMap Evt.vals)), (3, .pin plp)] (AllP.mem ⟨.inr ⟨0, _, rfl, rfl, rfl⟩, .inr ⟨1, _, rfl, rfl, rfl⟩, .inr ⟨2, _, rfl, rfl, rfl⟩, .inr ⟨3, _, rfl, rfl, (oren_fix (S := fun _ => False) (fun i hi => hi.elim) (o := .row 2 n.N.length ((nS n l 0).1.flatMap Ste.cells) 119) (scs_st _ _)).symm⟩, .inr ⟨4, _, rfl, rfl, (oren_fix (S := fun _ => False) (fun i hi => hi.elim) (o := .row 1 n.N.length (((nS n l 0).2 0).map fun x => ii x) 3) (scs_i _ _)).symm⟩, .inr ⟨5, _, rfl, rfl, (oren_fix (S := fun _ => False) (fun i hi => hi.elim) (o := .row 1 n.N.length (((nS n l 0).2 1).map fun x => ii x) 3) (scs_i _ _)).symm⟩, .inr ⟨6, _, rfl, rfl, (oren_fix (S := fun _ => False) (fun i hi => hi.elim) (o := .row 1 n.N.length (((nS n l 0).2 2).map fun x => ii x) 3) (scs_i _ _)).symm⟩, .inr ⟨7, _, rfl, rfl, (oren_fix (S := fun _ => False) (fun i hi => hi.elim) (o := .row 1 n.N.length (((nS n l 0).2 3).map fun x => ii x) 3) (scs_i _ _)).symm⟩, .inr ⟨8, _, rfl, rfl, (oren_fix (S := fun _ => False) (fun i hi => hi.elim) (o := .row 1 n.N.length (((nS n l 0).2 4).map fun x => ii x) 3) (scs_i _ _)).symm⟩, .inr ⟨9, _, rfl, rfl, (oren_fix (S := fun _ => False) (fun i hi => hi.elim) (o := .row 1 n.N.length (((nS n l 0).2 5).map fun x => ii x) 3) (scs_i _ _)).symm⟩, .inr ⟨10, _, rfl, rfl, (oren_fix (S := fun _ => False) (fun i hi => hi.elim) (o := .row 1 n.N.length (((nS n l 0).2 6).map fun x => ii x) 3) (scs_i _ _)).symm⟩, .inr ⟨11, _, rfl, rfl, (oren_fix (S := fun _ => False) (fun i hi => hi.elim) (o := .row 1 n.N.length (((nS n l 0).2 7).map fun x => ii x) 3) (scs_i _ _)).symm⟩, .inr ⟨12, _, rfl, rfl, (oren_fix (S := fun _ => False) (fun i hi => hi.elim) (o := .row 1 n.N.length (((nS n l 0).2 8).map fun x => ii x) 3) (scs_i _ _)).symm⟩, .inr ⟨13, _, rfl, rfl, (oren_fix (S := fun _ => False) (fun i hi => hi.elim) (o := .row 1 n.N.length (((nS n l 0).2 9).map fun x => ii x) 3) (scs_i _ _)).symm⟩, .inr ⟨14, _, rfl, rfl, (oren_fix (S := fun _ => False) (fun i hi => hi.elim) (o := .row 1 n.N.length (((nS n l 0).2 10).map fun x => ii x) 3) (scs_i _ _)).symm⟩, .inr ⟨15, _, rfl, rfl, (oren_fix (S := fun _ => False) (fun i hi => hi.elim) (o := .row 1 n.N.length (((nS n l 0).2 11).map fun x => ii x) 3) (scs_i _ _)).symm⟩, .inr ⟨16, _, rfl, rfl, (oren_fix (S := fun _ => False) (fun i hi => hi.elim) (o := .row 1 n.N.length (((nS n l 0).2 12).map fun x => ii x) 3) (scs_i _ _)).symm⟩, .inr ⟨17, _, rfl, rfl, (oren_fix (S := fun _ => False) (fun i hi => hi.elim) (o := .row 1 n.N.length (((nS n l 0).2 13).map fun x => ii x) 3) (scs_i _ _)).symm⟩, .inr ⟨18, _, rfl, rfl, (oren_fix (S := fun _ => False) (fun i hi => hi.elim) (o := .row 1 n.N.length (((nS n l 0).2 14).map fun x => ii x) 3) (scs_i _ _)).symm⟩, .inr ⟨19, _, rfl, rfl, (oren_fix (S := fun _ => False) (fun i hi => hi.elim) (o := .row 1 n.N.length (((nS n l 0).2 15).map fun x => ii x) 3) (scs_i _ _)).symm⟩, .inl ⟨rfl, fun ρ h => h⟩, .inl ⟨rfl, fun ρ h => h⟩, trivial⟩)
  have hEE : Ext w w1 := hW.toExt.trans hE
  have hsz := hW.size
  obtain ⟨LL, hLL⟩ : ∃ LL, L1.map (fun p => (5 + p.1, p.2)) = LL := ⟨_, rfl⟩
  have hHL : ∀ p ∈ LL, 5 ≤ p.1 ∧ p.1 < 26 ∧ w.heap.size ≤ p.2 := fun p hp => by
    rw [← hLL] at hp
    obtain ⟨q, hq, rfl⟩ := List.mem_map.1 hp
    obtain ⟨h1, h2⟩ := hL1 q hq
    exact ⟨by show 5 ≤ 5 + q.1; omega, by show 5 + q.1 < 26; omega, by show w.heap.size ≤ q.2; exact Nat.le_trans hsz h2⟩
  rw [hLL] at hWj
  refine ⟨.ptr 5 0, [(1, .opq 2), (2, ii (K : Int)), (7, ii 0)], ρ.join 0 5 ρ1, _, 26, LL, ?_, (show 5 < 26 by decide), AllP.mem ⟨⟨_, rfl, (conc_agree hagj (.opq 2) (show 2 < 5 by decide)).symm, (show 2 < 26 by decide)⟩, ⟨_, rfl, rfl, trivial⟩, ⟨_, rfl, rfl, trivial⟩, trivial⟩, hWj, ?_⟩
  · rw [hen]; simp [SV.conc, Env.join]
  clear hWj hagj hW1 hL1 hW hen hsz
  refine Run.of_wpK (hc w1 LL none (fun _ h => by cases h)) 1000 _ ?_
  conv => whnf
  refine Run.nils (T' := [(9, .ptr 5 0), (10, .ptr 26 0), (11, .opq 27), (27, ii (K : Int)), (28, ii 0)]) (M' := [(5, .cells [.opq 6, ii n.inp, .opq 25, .mp 7, ii ((0 : Nat) : Int), .opq 8, .opq 9, .opq 10, .opq 11, .opq 12, .opq 13, .opq 14, .opq 15, .opq 16, .opq 17, .opq 18, .opq 19, .opq 20, .opq 21, .opq 22, .opq 23, .opq 24] 117), (6, .rwin 8 n.N.length (n.N.flatMap Prm.vals)), (7, swS n.S), (8, .row 2 n.N.length ((nS n l 0).1.flatMap Ste.cells) 119), (9, .row 1 n.N.length (((nS n l 0).2 0).map fun x => ii x) 3), (10, .row 1 n.N.length (((nS n l 0).2 1).map fun x => ii x) 3), (11, .row 1 n.N.length (((nS n l 0).2 2).map fun x => ii x) 3), (12, .row 1 n.N.length (((nS n l 0).2 3).map fun x => ii x) 3), (13, .row 1 n.N.length (((nS n l 0).2 4).map fun x => ii x) 3), (14, .row 1 n.N.length (((nS n l 0).2 5).map fun x => ii x) 3), (15, .row 1 n.N.length (((nS n l 0).2 6).map fun x => ii x) 3), (16, .row 1 n.N.length (((nS n l 0).2 7).map fun x => ii x) 3), (17, .row 1 n.N.length (((nS n l 0).2 8).map fun x => ii x) 3), (18, .row 1 n.N.length (((nS n l 0).2 9).map fun x => ii x) 3), (19, .row 1 n.N.length (((nS n l 0).2 10).map fun x => ii x) 3), (20, .row 1 n.N.length (((nS n l 0).2 11).map fun x => ii x) 3), (21, .row 1 n.N.length (((nS n l 0).2 12).map fun x => ii x) 3), (22, .row 1 n.N.length (((nS n l 0).2 13).map fun x => ii x) 3), (23, .row 1 n.N.length (((nS n l 0).2 14).map fun x => ii x) 3), (24, .row 1 n.N.length (((nS n l 0).2 15).map fun x => ii x) 3), (26, .cells [.opq 2] 95), (27, .row 2 (nO n l 0).length ((nO n l 0).flatMap Evt.cells) 45), (2, .rwin 2 (evR l 0).length ((evR l 0).flatMap Evt.vals)), (3, .pin plp)]) 1 (fun _ => .row 2 0 [] 45) (fun _ _ => .inl ⟨_, _, rfl⟩) ⟨⟨_, rfl, .inl rfl⟩, ⟨_, rfl, .inl rfl⟩, ⟨_, rfl, .inr (.inl ⟨rfl, 0, by decide, rfl⟩)⟩, ⟨_, rfl, .inl rfl⟩, ⟨_, rfl, .inl rfl⟩, trivial⟩ ⟨.inr ⟨_, rfl, .inl rfl⟩, .inr ⟨_, rfl, .inl rfl⟩, .inr ⟨_, rfl, .inl rfl⟩, .inr ⟨_, rfl, .inl rfl⟩, .inr ⟨_, rfl, .inl rfl⟩, .inr ⟨_, rfl, .inl rfl⟩, .inr ⟨_, rfl, .inl rfl⟩, .inr ⟨_, rfl, .inl rfl⟩, .inr ⟨_, rfl, .inl rfl⟩, .inr ⟨_, rfl, .inl rfl⟩, .inr ⟨_, rfl, .inl rfl⟩, .inr ⟨_, rfl, .inl rfl⟩, .inr ⟨_, rfl, .inl rfl⟩, .inr ⟨_, rfl, .inl rfl⟩, .inr ⟨_, rfl, .inl rfl⟩, .inr ⟨_, rfl, .inl rfl⟩, .inr ⟨_, rfl, .inl rfl⟩, .inr ⟨_, rfl, .inl rfl⟩, .inr ⟨_, rfl, .inl rfl⟩, .inr ⟨_, rfl, .inl rfl⟩, .inr ⟨_, rfl, .inl rfl⟩, .inl ⟨0, by decide, rfl⟩, .inr ⟨_, rfl, .inl rfl⟩, .inr ⟨_, rfl, .inl rfl⟩, trivial⟩ ?_
  have hne1 : ∀ x ∈ ([(5, .cells [.opq 6, ii n.inp, .opq 25, .mp 7, ii ((0 : Nat) : Int), .opq 8, .opq 9, .opq 10, .opq 11, .opq 12, .opq 13, .opq 14, .opq 15, .opq 16, .opq 17, .opq 18, .opq 19, .opq 20, .opq 21, .opq 22, .opq 23, .opq 24] 117), (6, .rwin 8 n.N.length (n.N.flatMap Prm.vals)), (7, swS n.S), (8, .row 2 n.N.length ((nS n l 0).1.flatMap Ste.cells) 119), (9, .row 1 n.N.length (((nS n l 0).2 0).map fun x => ii x) 3), (10, .row 1 n.N.length (((nS n l 0).2 1).map fun x => ii x) 3), (11, .row 1 n.N.length (((nS n l 0).2 2).map fun x => ii x) 3), (12, .row 1 n.N.length (((nS n l 0).2 3).map fun x => ii x) 3), (13, .row 1 n.N.length (((nS n l 0).2 4).map fun x => ii x) 3), (14, .row 1 n.N.length (((nS n l 0).2 5).map fun x => ii x) 3), (15, .row 1 n.N.length (((nS n l 0).2 6).map fun x => ii x) 3), (16, .row 1 n.N.length (((nS n l 0).2 7).map fun x => ii x) 3), (17, .row 1 n.N.length (((nS n l 0).2 8).map fun x => ii x) 3), (18, .row 1 n.N.length (((nS n l 0).2 9).map fun x => ii x) 3), (19, .row 1 n.N.length (((nS n l 0).2 10).map fun x => ii x) 3), (20, .row 1 n.N.length (((nS n l 0).2 11).map fun x => ii x) 3), (21, .row 1 n.N.length (((nS n l 0).2 12).map fun x => ii x) 3), (22, .row 1 n.N.length (((nS n l 0).2 13).map fun x => ii x) 3), (23, .row 1 n.N.length (((nS n l 0).2 14).map fun x => ii x) 3), (24, .row 1 n.N.length (((nS n l 0).2 15).map fun x => ii x) 3), (26, .cells [.opq 28] 95), (27, .row 2 (nO n l 0).length ((nO n l 0).flatMap Evt.cells) 45), (28, .rwin 2 (evR l 0).length ((evR l 0).flatMap Evt.vals)), (3, .pin plp)] : List (Nat × SObj)), x.1 ≠ 2 := AllP.mem ⟨(show 5 ≠ 2 by decide), (show 6 ≠ 2 by decide), (show 7 ≠ 2 by decide), (show 8 ≠ 2 by decide), (show 9 ≠ 2 by decide), (show 10 ≠ 2 by decide), (show 11 ≠ 2 by decide), (show 12 ≠ 2 by decide), (show 13 ≠ 2 by decide), (show 14 ≠ 2 by decide), (show 15 ≠ 2 by decide), (show 16 ≠ 2 by decide), (show 17 ≠ 2 by decide), (show 18 ≠ 2 by decide), (show 19 ≠ 2 by decide), (show 20 ≠ 2 by decide), (show 21 ≠ 2 by decide), (show 22 ≠ 2 by decide), (show 23 ≠ 2 by decide), (show 24 ≠ 2 by decide), (show 26 ≠ 2 by decide), (show 27 ≠ 2 by decide), (show 28 ≠ 2 by decide), (show 3 ≠ 2 by decide), trivial⟩
  have hrqe : ∀ i, rq [(28, 2)] i = if i = 28 then 2 else i := fun i => by
    unfold rq
    rw [look_cons]
    by_cases e : i = 28
    · rw [if_pos e.symm, if_pos e]
    · rw [if_neg (Ne.symm e), if_neg e]; rfl
  refine Run.less (s' := ⟨[(9, .ptr 5 0), (10, .ptr 26 0), (11, .opq 27), (27, ii (K : Int)), (28, ii 0)], [(5, .cells [.opq 6, ii n.inp, .opq 25, .mp 7, ii ((0 : Nat) : Int), .opq 8, .opq 9, .opq 10, .opq 11, .opq 12, .opq 13, .opq 14, .opq 15, .opq 16, .opq 17, .opq 18, .opq 19, .opq 20, .opq 21, .opq 22, .opq 23, .opq 24] 117), (6, .rwin 8 n.N.length (n.N.flatMap Prm.vals)), (7, swS n.S), (8, .row 2 n.N.length ((nS n l 0).1.flatMap Ste.cells) 119), (9, .row 1 n.N.length (((nS n l 0).2 0).map fun x => ii x) 3), (10, .row 1 n.N.length (((nS n l 0).2 1).map fun x => ii x) 3), (11, .row 1 n.N.length (((nS n l 0).2 2).map fun x => ii x) 3), (12, .row 1 n.N.length (((nS n l 0).2 3).map fun x => ii x) 3), (13, .row 1 n.N.length (((nS n l 0).2 4).map fun x => ii x) 3), (14, .row 1 n.N.length (((nS n l 0).2 5).map fun x => ii x) 3), (15, .row 1 n.N.length (((nS n l 0).2 6).map fun x => ii x) 3), (16, .row 1 n.N.length (((nS n l 0).2 7).map fun x => ii x) 3), (17, .row 1 n.N.length (((nS n l 0).2 8).map fun x => ii x) 3), (18, .row 1 n.N.length (((nS n l 0).2 9).map fun x => ii x) 3), (19, .row 1 n.N.length (((nS n l 0).2 10).map fun x => ii x) 3), (20, .row 1 n.N.length (((nS n l 0).2 11).map fun x => ii x) 3), (21, .row 1 n.N.length (((nS n l 0).2 12).map fun x => ii x) 3), (22, .row 1 n.N.length (((nS n l 0).2 13).map fun x => ii x) 3), (23, .row 1 n.N.length (((nS n l 0).2 14).map fun x => ii x) 3), (24, .row 1 n.N.length (((nS n l 0).2 15).map fun x => ii x) 3), (26, .cells [.opq 28] 95), (27, .row 2 (nO n l 0).length ((nO n l 0).flatMap Evt.cells) 45), (28, .rwin 2 (evR l 0).length ((evR l 0).flatMap Evt.vals)), (3, .pin plp)], 29, [], _⟩) (rq [(28, 2)]) ⟨AllP.mem ⟨⟨rfl, (show 5 < 29 by decide)⟩, ⟨rfl, (show 26 < 29 by decide)⟩, ⟨rfl, (show 27 < 29 by decide)⟩, ⟨rfl, trivial⟩, ⟨rfl, trivial⟩, trivial⟩, AllP.mem ⟨⟨rfl, (show 5 < 29 by decide), by simp [SObj.sc, SV.scs, SV.sc]⟩, ⟨rfl, (show 6 < 29 by decide), trivial⟩, ⟨rfl, (show 7 < 29 by decide), trivial⟩, ⟨congrArg some (oren_fix (S := fun _ => False) (fun i hi => hi.elim) (o := .row 2 n.N.length ((nS n l 0).1.flatMap Ste.cells) 119) (scs_st _ _)).symm, (show 8 < 29 by decide), scs_st _ _⟩, ⟨congrArg some (oren_fix (S := fun _ => False) (fun i hi => hi.elim) (o := .row 1 n.N.length (((nS n l 0).2 0).map fun x => ii x) 3) (scs_i _ _)).symm, (show 9 < 29 by decide), scs_i _ _⟩, ⟨congrArg some (oren_fix (S := fun _ => False) (fun i hi => hi.elim) (o := .row 1 n.N.length (((nS n l 0).2 1).map fun x => ii x) 3) (scs_i _ _)).symm, (show 10 < 29 by decide), scs_i _ _⟩, ⟨congrArg some (oren_fix (S := fun _ => False) (fun i hi => hi.elim) (o := .row 1 n.N.length (((nS n l 0).2 2).map fun x => ii x) 3) (scs_i _ _)).symm, (show 11 < 29 by decide), scs_i _ _⟩, ⟨congrArg some (oren_fix (S := fun _ => False) (fun i hi => hi.elim) (o := .row 1 n.N.length (((nS n l 0).2 3).map fun x => ii x) 3) (scs_i _ _)).symm, (show 12 < 29 by decide), scs_i _ _⟩, ⟨congrArg some (oren_fix (S := fun _ => False) (fun i hi => hi.elim) (o := .row 1 n.N.length (((nS n l 0).2 4).map fun x => ii x) 3) (scs_i _ _)).symm, (show 13 < 29 by decide), scs_i _ _⟩, ⟨congrArg some (oren_fix (S := fun _ => False) (fun i hi => hi.elim) (o := .row 1 n.N.length (((nS n l 0).2 5).map fun x => ii x) 3) (scs_i _ _)).symm, (show 14 < 29 by decide), scs_i _ _⟩, ⟨congrArg some (oren_fix (S := fun _ => False) (fun i hi => hi.elim) (o := .row 1 n.N.length (((nS n l 0).2 6).map fun x => ii x) 3) (scs_i _ _)).symm, (show 15 < 29 by decide), scs_i _ _⟩, ⟨congrArg some (oren_fix (S := fun _ => False) (fun i hi => hi.elim) (o := .row 1 n.N.length (((nS n l 0).2 7).map fun x => ii x) 3) (scs_i _ _)).symm, (show 16 < 29 by decide), scs_i _ _⟩, ⟨congrArg some (oren_fix (S := fun _ => False) (fun i hi => hi.elim) (o := .row 1 n.N.length (((nS n l 0).2 8).map fun x => ii x) 3) (scs_i _ _)).symm, (show 17 < 29 by decide), scs_i _ _⟩, ⟨congrArg some (oren_fix (S := fun _ => False) (fun i hi => hi.elim) (o := .row 1 n.N.length (((nS n l 0).2 9).map fun x => ii x) 3) (scs_i _ _)).symm, (show 18 < 29 by decide), scs_i _ _⟩, ⟨congrArg some (oren_fix (S := fun _ => False) (fun i hi => hi.elim) (o := .row 1 n.N.length (((nS n l 0).2 10).map fun x => ii x) 3) (scs_i _ _)).symm, (show 19 < 29 by decide), scs_i _ _⟩, ⟨congrArg some (oren_fix (S := fun _ => False) (fun i hi => hi.elim) (o := .row 1 n.N.length (((nS n l 0).2 11).map fun x => ii x) 3) (scs_i _ _)).symm, (show 20 < 29 by decide), scs_i _ _⟩, ⟨congrArg some (oren_fix (S := fun _ => False) (fun i hi => hi.elim) (o := .row 1 n.N.length (((nS n l 0).2 12).map fun x => ii x) 3) (scs_i _ _)).symm, (show 21 < 29 by decide), scs_i _ _⟩, ⟨congrArg some (oren_fix (S := fun _ => False) (fun i hi => hi.elim) (o := .row 1 n.N.length (((nS n l 0).2 13).map fun x => ii x) 3) (scs_i _ _)).symm, (show 22 < 29 by decide), scs_i _ _⟩, ⟨congrArg some (oren_fix (S := fun _ => False) (fun i hi => hi.elim) (o := .row 1 n.N.length (((nS n l 0).2 14).map fun x => ii x) 3) (scs_i _ _)).symm, (show 23 < 29 by decide), scs_i _ _⟩, ⟨congrArg some (oren_fix (S := fun _ => False) (fun i hi => hi.elim) (o := .row 1 n.N.length (((nS n l 0).2 15).map fun x => ii x) 3) (scs_i _ _)).symm, (show 24 < 29 by decide), scs_i _ _⟩, ⟨rfl, (show 26 < 29 by decide), by simp [SObj.sc, SV.scs, SV.sc]⟩, ⟨congrArg some (oren_fix (S := fun _ => False) (fun i hi => hi.elim) (o := .row 2 (nO n l 0).length ((nO n l 0).flatMap Evt.cells) 45) (scs_evts _ _)).symm, (show 27 < 29 by decide), scs_evts _ _⟩, ⟨rfl, (show 28 < 29 by decide), trivial⟩, ⟨congrArg some (pin_fix hcov (fun i hi => rq_fix (rq_noneB (B := 3) rfl hi))).symm, (show 3 < 29 by decide), fun p hp => Nat.lt_of_lt_of_le (hcov.1 p hp) (show 3 ≤ 29 by decide)⟩, trivial⟩, (fun x hx y hy h => ?_), (fun p hp => ⟨by rw [hrqe, if_neg (by have := hHL p hp; omega)], by have := hHL p hp; show p.1 < 29; omega⟩), rfl, rfl⟩ ?_
  · have h1 := hne1 x hx
    have h2 := hne1 y hy
    rw [hrqe, hrqe]
    split <;> split <;> omega
  clear hne1 hrqe

  refine Run.upToJ (T := fun i => [(9, .ptr 5 0), (10, .ptr 26 0), (11, .opq 27), (27, ii (K : Int)), (28, ii ((i : Nat) : Int))]) (M := fun i => [(5, .cells [.opq 6, ii n.inp, .opq 25, .mp 7, ii ((i : Nat) : Int), .opq 8, .opq 9, .opq 10, .opq 11, .opq 12, .opq 13, .opq 14, .opq 15, .opq 16, .opq 17, .opq 18, .opq 19, .opq 20, .opq 21, .opq 22, .opq 23, .opq 24] 117), (6, .rwin 8 n.N.length (n.N.flatMap Prm.vals)), (7, swS n.S), (8, .row 2 n.N.length ((nS n l i).1.flatMap Ste.cells) 119), (9, .row 1 n.N.length (((nS n l i).2 0).map fun x => ii x) 3), (10, .row 1 n.N.length (((nS n l i).2 1).map fun x => ii x) 3), (11, .row 1 n.N.length (((nS n l i).2 2).map fun x => ii x) 3), (12, .row 1 n.N.length (((nS n l i).2 3).map fun x => ii x) 3), (13, .row 1 n.N.length (((nS n l i).2 4).map fun x => ii x) 3), (14, .row 1 n.N.length (((nS n l i).2 5).map fun x => ii x) 3), (15, .row 1 n.N.length (((nS n l i).2 6).map fun x => ii x) 3), (16, .row 1 n.N.length (((nS n l i).2 7).map fun x => ii x) 3), (17, .row 1 n.N.length (((nS n l i).2 8).map fun x => ii x) 3), (18, .row 1 n.N.length (((nS n l i).2 9).map fun x => ii x) 3), (19, .row 1 n.N.length (((nS n l i).2 10).map fun x => ii x) 3), (20, .row 1 n.N.length (((nS n l i).2 11).map fun x => ii x) 3), (21, .row 1 n.N.length (((nS n l i).2 12).map fun x => ii x) 3), (22, .row 1 n.N.length (((nS n l i).2 13).map fun x => ii x) 3), (23, .row 1 n.N.length (((nS n l i).2 14).map fun x => ii x) 3), (24, .row 1 n.N.length (((nS n l i).2 15).map fun x => ii x) 3), (26, .cells [.opq 28] 95), (27, .row 2 (nO n l i).length ((nO n l i).flatMap Evt.cells) 45), (28, .rwin 2 (evR l i).length ((evR l i).flatMap Evt.vals)), (3, .pin plp)]) (fun _ => True) K trivial ?_ ?_
  · intro i hi hJ ih
    obtain ⟨X, hX⟩ : ∃ X, evR l i = X := ⟨_, rfl⟩
    have hXl : X.length ≤ 65536 := by rw [← hX]; exact Nat.le_trans (evR_len l i) hll
    have hev : evR l (i + 1) = X.drop (nAt ((i : Nat) : Int) X) := by show (evR l i).drop (nAt i (evR l i)) = _; rw [hX]
    have hnl := nAt_le ((i : Nat) : Int) X
    rw [hX]
    refine Run.pinAll fun plq hcovq => ?_
    have hne1 : ∀ x ∈ ([(29, .pin plq), (5, .cells [.opq 6, ii n.inp, .opq 25, .mp 7, ii ((i : Nat) : Int), .opq 8, .opq 9, .opq 10, .opq 11, .opq 12, .opq 13, .opq 14, .opq 15, .opq 16, .opq 17, .opq 18, .opq 19, .opq 20, .opq 21, .opq 22, .opq 23, .opq 24] 117), (6, .rwin 8 n.N.length (n.N.flatMap Prm.vals)), (7, swS n.S), (8, .row 2 n.N.length ((nS n l i).1.flatMap Ste.cells) 119), (9, .row 1 n.N.length (((nS n l i).2 0).map fun x => ii x) 3), (10, .row 1 n.N.length (((nS n l i).2 1).map fun x => ii x) 3), (11, .row 1 n.N.length (((nS n l i).2 2).map fun x => ii x) 3), (12, .row 1 n.N.length (((nS n l i).2 3).map fun x => ii x) 3), (13, .row 1 n.N.length (((nS n l i).2 4).map fun x => ii x) 3), (14, .row 1 n.N.length (((nS n l i).2 5).map fun x => ii x) 3), (15, .row 1 n.N.length (((nS n l i).2 6).map fun x => ii x) 3), (16, .row 1 n.N.length (((nS n l i).2 7).map fun x => ii x) 3), (17, .row 1 n.N.length (((nS n l i).2 8).map fun x => ii x) 3), (18, .row 1 n.N.length (((nS n l i).2 9).map fun x => ii x) 3), (19, .row 1 n.N.length (((nS n l i).2 10).map fun x => ii x) 3), (20, .row 1 n.N.length (((nS n l i).2 11).map fun x => ii x) 3), (21, .row 1 n.N.length (((nS n l i).2 12).map fun x => ii x) 3), (22, .row 1 n.N.length (((nS n l i).2 13).map fun x => ii x) 3), (23, .row 1 n.N.length (((nS n l i).2 14).map fun x => ii x) 3), (24, .row 1 n.N.length (((nS n l i).2 15).map fun x => ii x) 3), (26, .cells [.opq 30] 95), (27, .row 2 (nO n l i).length ((nO n l i).flatMap Evt.cells) 45), (30, .rwin 2 X.length (X.flatMap Evt.vals)), (3, .pin plp)] : List (Nat × SObj)), x.1 ≠ 28 := AllP.mem ⟨(show 29 ≠ 28 by decide), (show 5 ≠ 28 by decide), (show 6 ≠ 28 by decide), (show 7 ≠ 28 by decide), (show 8 ≠ 28 by decide), (show 9 ≠ 28 by decide), (show 10 ≠ 28 by decide), (show 11 ≠ 28 by decide), (show 12 ≠ 28 by decide), (show 13 ≠ 28 by decide), (show 14 ≠ 28 by decide), (show 15 ≠ 28 by decide), (show 16 ≠ 28 by decide), (show 17 ≠ 28 by decide), (show 18 ≠ 28 by decide), (show 19 ≠ 28 by decide), (show 20 ≠ 28 by decide), (show 21 ≠ 28 by decide), (show 22 ≠ 28 by decide), (show 23 ≠ 28 by decide), (show 24 ≠ 28 by decide), (show 26 ≠ 28 by decide), (show 27 ≠ 28 by decide), (show 30 ≠ 28 by decide), (show 3 ≠ 28 by decide), trivial⟩
    have hrqe : ∀ i, rq [(30, 28)] i = if i = 30 then 28 else i := fun i => by
      unfold rq
      rw [look_cons]
      by_cases e : i = 30
      · rw [if_pos e.symm, if_pos e]
      · rw [if_neg (Ne.symm e), if_neg e]; rfl
    refine Run.less (s' := ⟨[(9, .ptr 5 0), (10, .ptr 26 0), (11, .opq 27), (27, ii (K : Int)), (28, ii ((i : Nat) : Int))], [(29, .pin plq), (5, .cells [.opq 6, ii n.inp, .opq 25, .mp 7, ii ((i : Nat) : Int), .opq 8, .opq 9, .opq 10, .opq 11, .opq 12, .opq 13, .opq 14, .opq 15, .opq 16, .opq 17, .opq 18, .opq 19, .opq 20, .opq 21, .opq 22, .opq 23, .opq 24] 117), (6, .rwin 8 n.N.length (n.N.flatMap Prm.vals)), (7, swS n.S), (8, .row 2 n.N.length ((nS n l i).1.flatMap Ste.cells) 119), (9, .row 1 n.N.length (((nS n l i).2 0).map fun x => ii x) 3), (10, .row 1 n.N.length (((nS n l i).2 1).map fun x => ii x) 3), (11, .row 1 n.N.length (((nS n l i).2 2).map fun x => ii x) 3), (12, .row 1 n.N.length (((nS n l i).2 3).map fun x => ii x) 3), (13, .row 1 n.N.length (((nS n l i).2 4).map fun x => ii x) 3), (14, .row 1 n.N.length (((nS n l i).2 5).map fun x => ii x) 3), (15, .row 1 n.N.length (((nS n l i).2 6).map fun x => ii x) 3), (16, .row 1 n.N.length (((nS n l i).2 7).map fun x => ii x) 3), (17, .row 1 n.N.length (((nS n l i).2 8).map fun x => ii x) 3), (18, .row 1 n.N.length (((nS n l i).2 9).map fun x => ii x) 3), (19, .row 1 n.N.length (((nS n l i).2 10).map fun x => ii x) 3), (20, .row 1 n.N.length (((nS n l i).2 11).map fun x => ii x) 3), (21, .row 1 n.N.length (((nS n l i).2 12).map fun x => ii x) 3), (22, .row 1 n.N.length (((nS n l i).2 13).map fun x => ii x) 3), (23, .row 1 n.N.length (((nS n l i).2 14).map fun x => ii x) 3), (24, .row 1 n.N.length (((nS n l i).2 15).map fun x => ii x) 3), (26, .cells [.opq 30] 95), (27, .row 2 (nO n l i).length ((nO n l i).flatMap Evt.cells) 45), (30, .rwin 2 X.length (X.flatMap Evt.vals)), (3, .pin plp)], 31, [], _⟩) (rq [(30, 28)]) ⟨AllP.mem ⟨⟨rfl, (show 5 < 31 by decide)⟩, ⟨rfl, (show 26 < 31 by decide)⟩, ⟨rfl, (show 27 < 31 by decide)⟩, ⟨rfl, trivial⟩, ⟨rfl, trivial⟩, trivial⟩, AllP.mem ⟨⟨congrArg some (pin_fix hcovq (fun i hi => rq_fix (rq_noneB (B := 29) rfl hi))).symm, (show 29 < 31 by decide), fun p hp => Nat.lt_of_lt_of_le (hcovq.1 p hp) (show 29 ≤ 31 by decide)⟩, ⟨rfl, (show 5 < 31 by decide), by simp [SObj.sc, SV.scs, SV.sc]⟩, ⟨rfl, (show 6 < 31 by decide), trivial⟩, ⟨rfl, (show 7 < 31 by decide), trivial⟩, ⟨congrArg some (oren_fix (S := fun _ => False) (fun i hi => hi.elim) (o := .row 2 n.N.length ((nS n l i).1.flatMap Ste.cells) 119) (scs_st _ _)).symm, (show 8 < 31 by decide), scs_st _ _⟩, ⟨congrArg some (oren_fix (S := fun _ => False) (fun i hi => hi.elim) (o := .row 1 n.N.length (((nS n l i).2 0).map fun x => ii x) 3) (scs_i _ _)).symm, (show 9 < 31 by decide), scs_i _ _⟩, ⟨congrArg some (oren_fix (S := fun _ => False) (fun i hi => hi.elim) (o := .row 1 n.N.length (((nS n l i).2 1).map fun x => ii x) 3) (scs_i _ _)).symm, (show 10 < 31 by decide), scs_i _ _⟩, ⟨congrArg some (oren_fix (S := fun _ => False) (fun i hi => hi.elim) (o := .row 1 n.N.length (((nS n l i).2 2).map fun x => ii x) 3) (scs_i _ _)).symm, (show 11 < 31 by decide), scs_i _ _⟩, ⟨congrArg some (oren_fix (S := fun _ => False) (fun i hi => hi.elim) (o := .row 1 n.N.length (((nS n l i).2 3).map fun x => ii x) 3) (scs_i _ _)).symm, (show 12 < 31 by decide), scs_i _ _⟩, ⟨congrArg some (oren_fix (S := fun _ => False) (fun i hi => hi.elim) (o := .row 1 n.N.length (((nS n l i).2 4).map fun x => ii x) 3) (scs_i _ _)).symm, (show 13 < 31 by decide), scs_i _ _⟩, ⟨congrArg some (oren_fix (S := fun _ => False) (fun i hi => hi.elim) (o := .row 1 n.N.length (((nS n l i).2 5).map fun x => ii x) 3) (scs_i _ _)).symm, (show 14 < 31 by decide), scs_i _ _⟩, ⟨congrArg some (oren_fix (S := fun _ => False) (fun i hi => hi.elim) (o := .row 1 n.N.length (((nS n l i).2 6).map fun x => ii x) 3) (scs_i _ _)).symm, (show 15 < 31 by decide), scs_i _ _⟩, ⟨congrArg some (oren_fix (S := fun _ => False) (fun i hi => hi.elim) (o := .row 1 n.N.length (((nS n l i).2 7).map fun x => ii x) 3) (scs_i _ _)).symm, (show 16 < 31 by decide), scs_i _ _⟩, ⟨congrArg some (oren_fix (S := fun _ => False) (fun i hi => hi.elim) (o := .row 1 n.N.length (((nS n l i).2 8).map fun x => ii x) 3) (scs_i _ _)).symm, (show 17 < 31 by decide), scs_i _ _⟩, ⟨congrArg some (oren_fix (S := fun _ => False) (fun i hi => hi.elim) (o := .row 1 n.N.length (((nS n l i).2 9).map fun x => ii x) 3) (scs_i _ _)).symm, (show 18 < 31 by decide), scs_i _ _⟩, ⟨congrArg some (oren_fix (S := fun _ => False) (fun i hi => hi.elim) (o := .row 1 n.N.length (((nS n l i).2 10).map fun x => ii x) 3) (scs_i _ _)).symm, (show 19 < 31 by decide), scs_i _ _⟩, ⟨congrArg some (oren_fix (S := fun _ => False) (fun i hi => hi.elim) (o := .row 1 n.N.length (((nS n l i).2 11).map fun x => ii x) 3) (scs_i _ _)).symm, (show 20 < 31 by decide), scs_i _ _⟩, ⟨congrArg some (oren_fix (S := fun _ => False) (fun i hi => hi.elim) (o := .row 1 n.N.length (((nS n l i).2 12).map fun x => ii x) 3) (scs_i _ _)).symm, (show 21 < 31 by decide), scs_i _ _⟩, ⟨congrArg some (oren_fix (S := fun _ => False) (fun i hi => hi.elim) (o := .row 1 n.N.length (((nS n l i).2 13).map fun x => ii x) 3) (scs_i _ _)).symm, (show 22 < 31 by decide), scs_i _ _⟩, ⟨congrArg some (oren_fix (S := fun _ => False) (fun i hi => hi.elim) (o := .row 1 n.N.length (((nS n l i).2 14).map fun x => ii x) 3) (scs_i _ _)).symm, (show 23 < 31 by decide), scs_i _ _⟩, ⟨congrArg some (oren_fix (S := fun _ => False) (fun i hi => hi.elim) (o := .row 1 n.N.length (((nS n l i).2 15).map fun x => ii x) 3) (scs_i _ _)).symm, (show 24 < 31 by decide), scs_i _ _⟩, ⟨rfl, (show 26 < 31 by decide), by simp [SObj.sc, SV.scs, SV.sc]⟩, ⟨congrArg some (oren_fix (S := fun _ => False) (fun i hi => hi.elim) (o := .row 2 (nO n l i).length ((nO n l i).flatMap Evt.cells) 45) (scs_evts _ _)).symm, (show 27 < 31 by decide), scs_evts _ _⟩, ⟨rfl, (show 30 < 31 by decide), trivial⟩, ⟨congrArg some (pin_fix hcov (fun i hi => rq_fix (rq_noneB (B := 3) rfl hi))).symm, (show 3 < 31 by decide), fun p hp => Nat.lt_of_lt_of_le (hcov.1 p hp) (show 3 ≤ 31 by decide)⟩, trivial⟩, (fun x hx y hy h => ?_), (fun p hp => ⟨by rw [hrqe, if_neg (by have := hHL p hp; omega)], by have := hHL p hp; show p.1 < 31; omega⟩), rfl, rfl⟩ ?_
    · have h1 := hne1 x hx
      have h2 := hne1 y hy
      rw [hrqe, hrqe]
      split <;> split <;> omega
    clear hne1 hrqe
    refine Run.of_wpK (hc w1 LL none (fun _ h => by cases h)) 1000 _ ?_
    conv => whnf
    rw [decide_eq_true (show ((i : Nat) : Int) < (K : Int) by omega)]
    conv => whnf
    refine Run.inlineF (T0 := [(9, .ptr 5 0), (10, .ptr 26 0), (11, .opq 27), (27, ii (K : Int)), (28, ii ((i : Nat) : Int)), (12, ii ((i : Nat) : Int)), (31, .ptr 5 0)]) rfl rfl rfl rfl rfl rfl rfl (ent _ _ Try.func37 (by kernel_rfl) rfl) Try.func37 rfl rfl [] [(2000, fun _ _ => none)] hcovq rfl (fun v M' n' => v = .opq 31 ∧ M' = [(31, .row 1 (idsT X (nAt ((i : Nat) : Int) X)).length ((idsT X (nAt ((i : Nat) : Int) X)).map fun x => ii x) 3), (29, .pin plq), (5, .cells [.opq 6, ii n.inp, .opq 25, .mp 7, ii ((i : Nat) : Int), .opq 8, .opq 9, .opq 10, .opq 11, .opq 12, .opq 13, .opq 14, .opq 15, .opq 16, .opq 17, .opq 18, .opq 19, .opq 20, .opq 21, .opq 22, .opq 23, .opq 24] 117), (6, .rwin 8 n.N.length (n.N.flatMap Prm.vals)), (7, swS n.S), (8, .row 2 n.N.length ((nS n l i).1.flatMap Ste.cells) 119), (9, .row 1 n.N.length (((nS n l i).2 0).map fun x => ii x) 3), (10, .row 1 n.N.length (((nS n l i).2 1).map fun x => ii x) 3), (11, .row 1 n.N.length (((nS n l i).2 2).map fun x => ii x) 3), (12, .row 1 n.N.length (((nS n l i).2 3).map fun x => ii x) 3), (13, .row 1 n.N.length (((nS n l i).2 4).map fun x => ii x) 3), (14, .row 1 n.N.length (((nS n l i).2 5).map fun x => ii x) 3), (15, .row 1 n.N.length (((nS n l i).2 6).map fun x => ii x) 3), (16, .row 1 n.N.length (((nS n l i).2 7).map fun x => ii x) 3), (17, .row 1 n.N.length (((nS n l i).2 8).map fun x => ii x) 3), (18, .row 1 n.N.length (((nS n l i).2 9).map fun x => ii x) 3), (19, .row 1 n.N.length (((nS n l i).2 10).map fun x => ii x) 3), (20, .row 1 n.N.length (((nS n l i).2 11).map fun x => ii x) 3), (21, .row 1 n.N.length (((nS n l i).2 12).map fun x => ii x) 3), (22, .row 1 n.N.length (((nS n l i).2 13).map fun x => ii x) 3), (23, .row 1 n.N.length (((nS n l i).2 14).map fun x => ii x) 3), (24, .row 1 n.N.length (((nS n l i).2 15).map fun x => ii x) 3), (26, .cells [.opq 30] 95), (27, .row 2 (nO n l i).length ((nO n l i).flatMap Evt.cells) 45), (30, .rwin 2 (X.drop (nAt ((i : Nat) : Int) X)).length ((X.drop (nAt ((i : Nat) : Int) X)).flatMap Evt.vals)), (3, .pin plp)] ∧ n' = 32) ?_ ?_ ?_
    · exact AllP.mem ⟨⟨rfl, (show 5 < 29 by decide)⟩, ⟨rfl, (show 26 < 29 by decide)⟩, ⟨rfl, (show 27 < 29 by decide)⟩, ⟨rfl, trivial⟩, ⟨rfl, trivial⟩, ⟨rfl, trivial⟩, ⟨rfl, (show 5 < 29 by decide)⟩, trivial⟩
    · refine Run.of_wpK (hc2 w1 LL none (fun _ h => by cases h)) 100 _ ?_
      conv => whnf
      refine Run.nils (T' := [(0, .ptr 26 0), (1, ii ((i : Nat) : Int)), (5, .opq 31)]) (M' := [(31, .row 1 (idsT X 0).length ((idsT X 0).map fun x => ii x) 3), (29, .pin plq), (5, .cells [.opq 6, ii n.inp, .opq 25, .mp 7, ii ((i : Nat) : Int), .opq 8, .opq 9, .opq 10, .opq 11, .opq 12, .opq 13, .opq 14, .opq 15, .opq 16, .opq 17, .opq 18, .opq 19, .opq 20, .opq 21, .opq 22, .opq 23, .opq 24] 117), (6, .rwin 8 n.N.length (n.N.flatMap Prm.vals)), (7, swS n.S), (8, .row 2 n.N.length ((nS n l i).1.flatMap Ste.cells) 119), (9, .row 1 n.N.length (((nS n l i).2 0).map fun x => ii x) 3), (10, .row 1 n.N.length (((nS n l i).2 1).map fun x => ii x) 3), (11, .row 1 n.N.length (((nS n l i).2 2).map fun x => ii x) 3), (12, .row 1 n.N.length (((nS n l i).2 3).map fun x => ii x) 3), (13, .row 1 n.N.length (((nS n l i).2 4).map fun x => ii x) 3), (14, .row 1 n.N.length (((nS n l i).2 5).map fun x => ii x) 3), (15, .row 1 n.N.length (((nS n l i).2 6).map fun x => ii x) 3), (16, .row 1 n.N.length (((nS n l i).2 7).map fun x => ii x) 3), (17, .row 1 n.N.length (((nS n l i).2 8).map fun x => ii x) 3), (18, .row 1 n.N.length (((nS n l i).2 9).map fun x => ii x) 3), (19, .row 1 n.N.length (((nS n l i).2 10).map fun x => ii x) 3), (20, .row 1 n.N.length (((nS n l i).2 11).map fun x => ii x) 3), (21, .row 1 n.N.length (((nS n l i).2 12).map fun x => ii x) 3), (22, .row 1 n.N.length (((nS n l i).2 13).map fun x => ii x) 3), (23, .row 1 n.N.length (((nS n l i).2 14).map fun x => ii x) 3), (24, .row 1 n.N.length (((nS n l i).2 15).map fun x => ii x) 3), (26, .cells [.opq 30] 95), (27, .row 2 (nO n l i).length ((nO n l i).flatMap Evt.cells) 45), (30, .rwin 2 (X.drop 0).length ((X.drop 0).flatMap Evt.vals)), (3, .pin plp)]) 1 (fun _ => .row 1 0 [] 3) (fun _ _ => .inl ⟨_, _, rfl⟩) ⟨⟨_, rfl, .inl rfl⟩, ⟨_, rfl, .inl rfl⟩, ⟨_, rfl, .inr (.inl ⟨rfl, 0, by decide, rfl⟩)⟩, trivial⟩ ⟨.inl ⟨0, by decide, rfl⟩, .inr ⟨_, rfl, .inl rfl⟩, .inr ⟨_, rfl, .inl rfl⟩, .inr ⟨_, rfl, .inl rfl⟩, .inr ⟨_, rfl, .inl rfl⟩, .inr ⟨_, rfl, .inl rfl⟩, .inr ⟨_, rfl, .inl rfl⟩, .inr ⟨_, rfl, .inl rfl⟩, .inr ⟨_, rfl, .inl rfl⟩, .inr ⟨_, rfl, .inl rfl⟩, .inr ⟨_, rfl, .inl rfl⟩, .inr ⟨_, rfl, .inl rfl⟩, .inr ⟨_, rfl, .inl rfl⟩, .inr ⟨_, rfl, .inl rfl⟩, .inr ⟨_, rfl, .inl rfl⟩, .inr ⟨_, rfl, .inl rfl⟩, .inr ⟨_, rfl, .inl rfl⟩, .inr ⟨_, rfl, .inl rfl⟩, .inr ⟨_, rfl, .inl rfl⟩, .inr ⟨_, rfl, .inl rfl⟩, .inr ⟨_, rfl, .inl rfl⟩, .inr ⟨_, rfl, .inl rfl⟩, .inr ⟨_, rfl, .inl rfl⟩, .inr ⟨_, rfl, .inl rfl⟩, .inr ⟨_, rfl, .inl rfl⟩, .inr ⟨_, rfl, .inl rfl⟩, trivial⟩ ?_
      refine Run.upToJ (T := fun _ => [(0, .ptr 26 0), (1, ii ((i : Nat) : Int)), (5, .opq 31)]) (M := fun j => [(31, .row 1 (idsT X j).length ((idsT X j).map fun x => ii x) 3), (29, .pin plq), (5, .cells [.opq 6, ii n.inp, .opq 25, .mp 7, ii ((i : Nat) : Int), .opq 8, .opq 9, .opq 10, .opq 11, .opq 12, .opq 13, .opq 14, .opq 15, .opq 16, .opq 17, .opq 18, .opq 19, .opq 20, .opq 21, .opq 22, .opq 23, .opq 24] 117), (6, .rwin 8 n.N.length (n.N.flatMap Prm.vals)), (7, swS n.S), (8, .row 2 n.N.length ((nS n l i).1.flatMap Ste.cells) 119), (9, .row 1 n.N.length (((nS n l i).2 0).map fun x => ii x) 3), (10, .row 1 n.N.length (((nS n l i).2 1).map fun x => ii x) 3), (11, .row 1 n.N.length (((nS n l i).2 2).map fun x => ii x) 3), (12, .row 1 n.N.length (((nS n l i).2 3).map fun x => ii x) 3), (13, .row 1 n.N.length (((nS n l i).2 4).map fun x => ii x) 3), (14, .row 1 n.N.length (((nS n l i).2 5).map fun x => ii x) 3), (15, .row 1 n.N.length (((nS n l i).2 6).map fun x => ii x) 3), (16, .row 1 n.N.length (((nS n l i).2 7).map fun x => ii x) 3), (17, .row 1 n.N.length (((nS n l i).2 8).map fun x => ii x) 3), (18, .row 1 n.N.length (((nS n l i).2 9).map fun x => ii x) 3), (19, .row 1 n.N.length (((nS n l i).2 10).map fun x => ii x) 3), (20, .row 1 n.N.length (((nS n l i).2 11).map fun x => ii x) 3), (21, .row 1 n.N.length (((nS n l i).2 12).map fun x => ii x) 3), (22, .row 1 n.N.length (((nS n l i).2 13).map fun x => ii x) 3), (23, .row 1 n.N.length (((nS n l i).2 14).map fun x => ii x) 3), (24, .row 1 n.N.length (((nS n l i).2 15).map fun x => ii x) 3), (26, .cells [.opq 30] 95), (27, .row 2 (nO n l i).length ((nO n l i).flatMap Evt.cells) 45), (30, .rwin 2 (X.drop j).length ((X.drop j).flatMap Evt.vals)), (3, .pin plp)]) (fun _ => True) ((nAt ((i : Nat) : Int) X)) trivial ?_ ?_
      · intro j hj _ ih2
        obtain ⟨hj1, hj2⟩ := nAt_lt hj
        have h0 : 0 < (X.drop j).length := by rw [List.length_drop]; omega
        have e0 : (X.drop j)[0] = X[j] := by simp
        refine Run.of_wpK (hc2 w1 LL none (fun _ h => by cases h)) 1000 _ ?_
        conv => whnf
        rw [decide_eq_true (show (0 : Int) < ((X.drop j).length : Int) by omega)]
        conv => whnf
        refine ⟨by omega, ?_⟩
        conv => whnf
        rw [opF_loadWf (f := Evt.vals) (l := X.drop j) (c := .int .i64 (X.drop j)[0].tick) 0 0 rfl rfl rfl rfl Evt.vlen rfl h0 (by decide) rfl]
        conv => whnf
        rw [e0, hj2, show (((i : Nat) : Int) == ((i : Nat) : Int)) = true by simp]
        conv => whnf
        refine ⟨by omega, ?_⟩
        conv => whnf
        rw [opF_loadWf (f := Evt.vals) (l := X.drop j) (c := .int .i64 (X.drop j)[0].id) 0 1 rfl rfl rfl rfl Evt.vlen rfl h0 (by decide) rfl]
        conv => whnf
        rw [e0]
        conv => whnf
        have hil := idsT_len (show j ≤ X.length by omega)
        refine ⟨by omega, ?_⟩
        conv => whnf
        rw [opF_sliceW 1 rfl rfl rfl rfl rfl rfl (by omega), drop_flat Evt.vlen, List.drop_drop, show (X.drop j).length - 1 = (X.drop (j + 1)).length by simp; omega]
        conv => whnf
        refine Run.trimQ (T' := [(0, .ptr 26 0), (1, ii ((i : Nat) : Int)), (5, .opq 31)]) (M' := [(31, .row 1 (idsT X (j + 1)).length ((idsT X (j + 1)).map fun x => ii x) 3), (29, .pin plq), (5, .cells [.opq 6, ii n.inp, .opq 25, .mp 7, ii ((i : Nat) : Int), .opq 8, .opq 9, .opq 10, .opq 11, .opq 12, .opq 13, .opq 14, .opq 15, .opq 16, .opq 17, .opq 18, .opq 19, .opq 20, .opq 21, .opq 22, .opq 23, .opq 24] 117), (6, .rwin 8 n.N.length (n.N.flatMap Prm.vals)), (7, swS n.S), (8, .row 2 n.N.length ((nS n l i).1.flatMap Ste.cells) 119), (9, .row 1 n.N.length (((nS n l i).2 0).map fun x => ii x) 3), (10, .row 1 n.N.length (((nS n l i).2 1).map fun x => ii x) 3), (11, .row 1 n.N.length (((nS n l i).2 2).map fun x => ii x) 3), (12, .row 1 n.N.length (((nS n l i).2 3).map fun x => ii x) 3), (13, .row 1 n.N.length (((nS n l i).2 4).map fun x => ii x) 3), (14, .row 1 n.N.length (((nS n l i).2 5).map fun x => ii x) 3), (15, .row 1 n.N.length (((nS n l i).2 6).map fun x => ii x) 3), (16, .row 1 n.N.length (((nS n l i).2 7).map fun x => ii x) 3), (17, .row 1 n.N.length (((nS n l i).2 8).map fun x => ii x) 3), (18, .row 1 n.N.length (((nS n l i).2 9).map fun x => ii x) 3), (19, .row 1 n.N.length (((nS n l i).2 10).map fun x => ii x) 3), (20, .row 1 n.N.length (((nS n l i).2 11).map fun x => ii x) 3), (21, .row 1 n.N.length (((nS n l i).2 12).map fun x => ii x) 3), (22, .row 1 n.N.length (((nS n l i).2 13).map fun x => ii x) 3), (23, .row 1 n.N.length (((nS n l i).2 14).map fun x => ii x) 3), (24, .row 1 n.N.length (((nS n l i).2 15).map fun x => ii x) 3), (26, .cells [.opq 30] 95), (27, .row 2 (nO n l i).length ((nO n l i).flatMap Evt.cells) 45), (30, .rwin 2 (X.drop (j + 1)).length ((X.drop (j + 1)).flatMap Evt.vals)), (3, .pin plp)]) (rq [(31, 33), (33, 31), (30, 34), (34, 30)]) 32 ?_ ?_ ?_ ?_ (ih2 trivial)
        · intro i hi j hj hne he
          have inv : ∀ i, i < 32 → rq [(31, 33), (33, 31), (30, 34), (34, 30)] (rq [(31, 33), (33, 31), (30, 34), (34, 30)] i) = i := by decide
          exact hne (by rw [← inv i hi, he, inv j hj])
        · exact ⟨⟨rfl, (show 26 < 32 by decide)⟩, ⟨rfl, trivial⟩, ⟨rfl, (show 31 < 32 by decide)⟩, trivial⟩
        · exact ⟨⟨by rw [oren_fix (S := fun _ => False) (fun i hi => hi.elim) (o := .row 1 (idsT X (j + 1)).length ((idsT X (j + 1)).map fun x => ii x) 3) (scs_i _ _), idsT_succ hj1, List.length_append, List.map_append]; rfl, by omega, scs_i _ _⟩, ⟨congrArg some (pin_fix hcovq (fun i hi => rq_fix (rq_noneB (B := 29) rfl hi))).symm, by omega, fun p hp => Nat.lt_of_lt_of_le (hcovq.1 p hp) (show 29 ≤ 32 by decide)⟩, ⟨rfl, by omega, by simp [SObj.sc, SV.scs, SV.sc]⟩, ⟨rfl, by omega, trivial⟩, ⟨rfl, by omega, trivial⟩, ⟨congrArg some (oren_fix (S := fun _ => False) (fun i hi => hi.elim) (o := .row 2 n.N.length ((nS n l i).1.flatMap Ste.cells) 119) (scs_st _ _)).symm, by omega, scs_st _ _⟩, ⟨congrArg some (oren_fix (S := fun _ => False) (fun i hi => hi.elim) (o := .row 1 n.N.length (((nS n l i).2 0).map fun x => ii x) 3) (scs_i _ _)).symm, by omega, scs_i _ _⟩, ⟨congrArg some (oren_fix (S := fun _ => False) (fun i hi => hi.elim) (o := .row 1 n.N.length (((nS n l i).2 1).map fun x => ii x) 3) (scs_i _ _)).symm, by omega, scs_i _ _⟩, ⟨congrArg some (oren_fix (S := fun _ => False) (fun i hi => hi.elim) (o := .row 1 n.N.length (((nS n l i).2 2).map fun x => ii x) 3) (scs_i _ _)).symm, by omega, scs_i _ _⟩, ⟨congrArg some (oren_fix (S := fun _ => False) (fun i hi => hi.elim) (o := .row 1 n.N.length (((nS n l i).2 3).map fun x => ii x) 3) (scs_i _ _)).symm, by omega, scs_i _ _⟩, ⟨congrArg some (oren_fix (S := fun _ => False) (fun i hi => hi.elim) (o := .row 1 n.N.length (((nS n l i).2 4).map fun x => ii x) 3) (scs_i _ _)).symm, by omega, scs_i _ _⟩, ⟨congrArg some (oren_fix (S := fun _ => False) (fun i hi => hi.elim) (o := .row 1 n.N.length (((nS n l i).2 5).map fun x => ii x) 3) (scs_i _ _)).symm, by omega, scs_i _ _⟩, ⟨congrArg some (oren_fix (S := fun _ => False) (fun i hi => hi.elim) (o := .row 1 n.N.length (((nS n l i).2 6).map fun x => ii x) 3) (scs_i _ _)).symm, by omega, scs_i _ _⟩, ⟨congrArg some (oren_fix (S := fun _ => False) (fun i hi => hi.elim) (o := .row 1 n.N.length (((nS n l i).2 7).map fun x => ii x) 3) (scs_i _ _)).symm, by omega, scs_i _ _⟩, ⟨congrArg some (oren_fix (S := fun _ => False) (fun i hi => hi.elim) (o := .row 1 n.N.length (((nS n l i).2 8).map fun x => ii x) 3) (scs_i _ _)).symm, by omega, scs_i _ _⟩, ⟨congrArg some (oren_fix (S := fun _ => False) (fun i hi => hi.elim) (o := .row 1 n.N.length (((nS n l i).2 9).map fun x => ii x) 3) (scs_i _ _)).symm, by omega, scs_i _ _⟩, ⟨congrArg some (oren_fix (S := fun _ => False) (fun i hi => hi.elim) (o := .row 1 n.N.length (((nS n l i).2 10).map fun x => ii x) 3) (scs_i _ _)).symm, by omega, scs_i _ _⟩, ⟨congrArg some (oren_fix (S := fun _ => False) (fun i hi => hi.elim) (o := .row 1 n.N.length (((nS n l i).2 11).map fun x => ii x) 3) (scs_i _ _)).symm, by omega, scs_i _ _⟩, ⟨congrArg some (oren_fix (S := fun _ => False) (fun i hi => hi.elim) (o := .row 1 n.N.length (((nS n l i).2 12).map fun x => ii x) 3) (scs_i _ _)).symm, by omega, scs_i _ _⟩, ⟨congrArg some (oren_fix (S := fun _ => False) (fun i hi => hi.elim) (o := .row 1 n.N.length (((nS n l i).2 13).map fun x => ii x) 3) (scs_i _ _)).symm, by omega, scs_i _ _⟩, ⟨congrArg some (oren_fix (S := fun _ => False) (fun i hi => hi.elim) (o := .row 1 n.N.length (((nS n l i).2 14).map fun x => ii x) 3) (scs_i _ _)).symm, by omega, scs_i _ _⟩, ⟨congrArg some (oren_fix (S := fun _ => False) (fun i hi => hi.elim) (o := .row 1 n.N.length (((nS n l i).2 15).map fun x => ii x) 3) (scs_i _ _)).symm, by omega, scs_i _ _⟩, ⟨rfl, by omega, by simp [SObj.sc, SV.scs, SV.sc]⟩, ⟨congrArg some (oren_fix (S := fun _ => False) (fun i hi => hi.elim) (o := .row 2 (nO n l i).length ((nO n l i).flatMap Evt.cells) 45) (scs_evts _ _)).symm, by omega, scs_evts _ _⟩, ⟨rfl, by omega, trivial⟩, ⟨congrArg some (pin_fix hcov (fun i hi => rq_fix (rq_noneB (B := 3) rfl hi))).symm, by omega, fun p hp => Nat.lt_of_lt_of_le (hcov.1 p hp) (show 3 ≤ 32 by decide)⟩, trivial⟩
        · intro p hp
          have := hHL p hp
          exact ⟨rq_fix (rq_noneB (B := 26) rfl this.2.1), by omega⟩
      · intro _
        refine Run.of_wpK (hc2 w1 LL none (fun _ h => by cases h)) 1000 _ ?_
        conv => whnf
        by_cases hlt : (nAt ((i : Nat) : Int) X) < X.length
        · have h0 : 0 < (X.drop (nAt ((i : Nat) : Int) X)).length := by rw [List.length_drop]; omega
          have e0 : (X.drop (nAt ((i : Nat) : Int) X))[0] = X[(nAt ((i : Nat) : Int) X)] := by simp
          have hne := nAt_end hlt
          rw [decide_eq_true (show (0 : Int) < ((X.drop (nAt ((i : Nat) : Int) X)).length : Int) by omega)]
          conv => whnf
          refine ⟨by omega, ?_⟩
          conv => whnf
          rw [opF_loadWf (f := Evt.vals) (l := X.drop (nAt ((i : Nat) : Int) X)) (c := .int .i64 (X.drop (nAt ((i : Nat) : Int) X))[0].tick) 0 0 rfl rfl rfl rfl Evt.vlen rfl h0 (by decide) rfl]
          conv => whnf
          rw [e0, show (X[(nAt ((i : Nat) : Int) X)].tick == ((i : Nat) : Int)) = false by simpa using hne]
          conv => whnf
          exact ⟨fun ρ w' hW _ => ⟨ρ, .opq 31, [(31, .row 1 (idsT X (nAt ((i : Nat) : Int) X)).length ((idsT X (nAt ((i : Nat) : Int) X)).map fun x => ii x) 3), (29, .pin plq), (5, .cells [.opq 6, ii n.inp, .opq 25, .mp 7, ii ((i : Nat) : Int), .opq 8, .opq 9, .opq 10, .opq 11, .opq 12, .opq 13, .opq 14, .opq 15, .opq 16, .opq 17, .opq 18, .opq 19, .opq 20, .opq 21, .opq 22, .opq 23, .opq 24] 117), (6, .rwin 8 n.N.length (n.N.flatMap Prm.vals)), (7, swS n.S), (8, .row 2 n.N.length ((nS n l i).1.flatMap Ste.cells) 119), (9, .row 1 n.N.length (((nS n l i).2 0).map fun x => ii x) 3), (10, .row 1 n.N.length (((nS n l i).2 1).map fun x => ii x) 3), (11, .row 1 n.N.length (((nS n l i).2 2).map fun x => ii x) 3), (12, .row 1 n.N.length (((nS n l i).2 3).map fun x => ii x) 3), (13, .row 1 n.N.length (((nS n l i).2 4).map fun x => ii x) 3), (14, .row 1 n.N.length (((nS n l i).2 5).map fun x => ii x) 3), (15, .row 1 n.N.length (((nS n l i).2 6).map fun x => ii x) 3), (16, .row 1 n.N.length (((nS n l i).2 7).map fun x => ii x) 3), (17, .row 1 n.N.length (((nS n l i).2 8).map fun x => ii x) 3), (18, .row 1 n.N.length (((nS n l i).2 9).map fun x => ii x) 3), (19, .row 1 n.N.length (((nS n l i).2 10).map fun x => ii x) 3), (20, .row 1 n.N.length (((nS n l i).2 11).map fun x => ii x) 3), (21, .row 1 n.N.length (((nS n l i).2 12).map fun x => ii x) 3), (22, .row 1 n.N.length (((nS n l i).2 13).map fun x => ii x) 3), (23, .row 1 n.N.length (((nS n l i).2 14).map fun x => ii x) 3), (24, .row 1 n.N.length (((nS n l i).2 15).map fun x => ii x) 3), (26, .cells [.opq 30] 95), (27, .row 2 (nO n l i).length ((nO n l i).flatMap Evt.cells) 45), (30, .rwin 2 (X.drop (nAt ((i : Nat) : Int) X)).length ((X.drop (nAt ((i : Nat) : Int) X)).flatMap Evt.vals)), (3, .pin plp)], 32, rfl, rfl, (show 31 < 32 by decide), hW, rfl, rfl, rfl⟩⟩
        · have h0 : (X.drop (nAt ((i : Nat) : Int) X)).length = 0 := by rw [List.length_drop]; omega
          rw [decide_eq_false (show ¬ (0 : Int) < ((X.drop (nAt ((i : Nat) : Int) X)).length : Int) by omega)]
          conv => whnf
          exact ⟨fun ρ w' hW _ => ⟨ρ, .opq 31, [(31, .row 1 (idsT X (nAt ((i : Nat) : Int) X)).length ((idsT X (nAt ((i : Nat) : Int) X)).map fun x => ii x) 3), (29, .pin plq), (5, .cells [.opq 6, ii n.inp, .opq 25, .mp 7, ii ((i : Nat) : Int), .opq 8, .opq 9, .opq 10, .opq 11, .opq 12, .opq 13, .opq 14, .opq 15, .opq 16, .opq 17, .opq 18, .opq 19, .opq 20, .opq 21, .opq 22, .opq 23, .opq 24] 117), (6, .rwin 8 n.N.length (n.N.flatMap Prm.vals)), (7, swS n.S), (8, .row 2 n.N.length ((nS n l i).1.flatMap Ste.cells) 119), (9, .row 1 n.N.length (((nS n l i).2 0).map fun x => ii x) 3), (10, .row 1 n.N.length (((nS n l i).2 1).map fun x => ii x) 3), (11, .row 1 n.N.length (((nS n l i).2 2).map fun x => ii x) 3), (12, .row 1 n.N.length (((nS n l i).2 3).map fun x => ii x) 3), (13, .row 1 n.N.length (((nS n l i).2 4).map fun x => ii x) 3), (14, .row 1 n.N.length (((nS n l i).2 5).map fun x => ii x) 3), (15, .row 1 n.N.length (((nS n l i).2 6).map fun x => ii x) 3), (16, .row 1 n.N.length (((nS n l i).2 7).map fun x => ii x) 3), (17, .row 1 n.N.length (((nS n l i).2 8).map fun x => ii x) 3), (18, .row 1 n.N.length (((nS n l i).2 9).map fun x => ii x) 3), (19, .row 1 n.N.length (((nS n l i).2 10).map fun x => ii x) 3), (20, .row 1 n.N.length (((nS n l i).2 11).map fun x => ii x) 3), (21, .row 1 n.N.length (((nS n l i).2 12).map fun x => ii x) 3), (22, .row 1 n.N.length (((nS n l i).2 13).map fun x => ii x) 3), (23, .row 1 n.N.length (((nS n l i).2 14).map fun x => ii x) 3), (24, .row 1 n.N.length (((nS n l i).2 15).map fun x => ii x) 3), (26, .cells [.opq 30] 95), (27, .row 2 (nO n l i).length ((nO n l i).flatMap Evt.cells) 45), (30, .rwin 2 (X.drop (nAt ((i : Nat) : Int) X)).length ((X.drop (nAt ((i : Nat) : Int) X)).flatMap Evt.vals)), (3, .pin plp)], 32, rfl, rfl, (show 31 < 32 by decide), hW, rfl, rfl, rfl⟩⟩

    · rintro v M' n' ⟨rfl, rfl, rfl⟩
      have hnl2 : (idsT X (nAt ((i : Nat) : Int) X)).length ≤ 65536 := by rw [idsT_len hnl]; omega
      have hisn : ∀ k : Nat, (5 ≠ k ∧ 8 ≠ k ∧ (k < 9 ∨ 24 < k)) → ∀ q ∈ ([0, 3, 4, 5, 6, 7, 8, 9, 10, 11, 12, 13, 14, 15, 16, 17, 18, 19] : List Nat), (fun q => if q = 21 then 31 else 5 + q) q ≠ k := by
        intro k hk q hq
        have hq2 : q = 0 ∨ q = 3 ∨ (4 ≤ q ∧ q ≤ 19) := by simp at hq; omega
        show (if q = 21 then 31 else 5 + q) ≠ k
        rw [if_neg (by omega)]; omega
      refine Run.of_wpK (hc w1 LL none (fun _ h => by cases h)) 1000 _ ?_
      conv => whnf
      have hstep := nstep_spec n.inp ((i : Nat) : Int) n.N n.S (nS n l i).1 (nS n l i).2 (trIn l i) (hok i (by omega))
      rw [show W (((i : Nat) : Int) + 1) = ((i + 1 : Nat) : Int) from wrap_succ (by omega), show (nB ((i : Nat) : Int) n.N (nS n l i).1 (nS n l i).2).1 = (nS n l (i + 1)).1 from rfl, show nDue ((i : Nat) : Int) n.N n.S (nS n l i).1 (nS n l i).2 (trIn l i) = (nS n l (i + 1)).2 from rfl, show (nB ((i : Nat) : Int) n.N (nS n l i).1 (nS n l i).2).2.1 = nSp n l i from rfl, show trIn l i = idsT X (nAt ((i : Nat) : Int) X) by unfold trIn; rw [hX]] at hstep
      have eO : nO n l (i + 1) = nO n l i ++ spk ((i : Nat) : Int) ((nSp n l i).take (nSp n l i).length) := by
        show nO n l i ++ spk i (nSp n l i) = _
        rw [List.take_length]
      have hol0 := nSp_len n l i
      have hOl : (nO n l i).length ≤ 65536 := Nat.le_trans (nO_len n l i) (Nat.le_trans (Nat.mul_le_mul_right _ (by omega)) hK)
      obtain ⟨s, hs⟩ : ∃ s, nS n l i = s := ⟨_, rfl⟩
      obtain ⟨s2, hs2⟩ : ∃ s2, nS n l (i + 1) = s2 := ⟨_, rfl⟩
      obtain ⟨o, ho⟩ : ∃ o, nSp n l i = o := ⟨_, rfl⟩
      obtain ⟨O, hO⟩ : ∃ O, nO n l i = O := ⟨_, rfl⟩
      rw [hs, hs2, ho] at hstep
      rw [ho, hO] at eO
      rw [ho] at hol0
      rw [hO] at hOl
      rw [hs, hO]
      refine Run.callR (vs := [.ptr 0 0, .opq 21]) (caps := []) (caps2 := []) hstep (ent _ _ Try.func36 (by kernel_rfl) rfl) rfl rfl rfl rfl rfl rfl [.ptr 5 0, .opq 31] rfl (fun q => if q = 21 then 31 else 5 + q) rfl (fun q hq => by show (if q = 21 then 31 else 5 + q) < 32; split <;> omega) (fun q hq j hj hne => by show (if q = 21 then 31 else 5 + q) ≠ (if j = 21 then 31 else 5 + j); split <;> split <;> omega) (by decide)
        ⟨⟨by omega, SV.scs_lt (by decide) (nsimC_sc _ _), ⟨_, rfl, Conv.refl _⟩, .inr (by simp), fun h => by cases h⟩, ⟨by omega, trivial, ⟨_, rfl, Conv.refl _⟩, .inl rfl, fun _ => by simp⟩, ⟨by omega, trivial, ⟨_, rfl, Conv.refl _⟩, .inl rfl, fun _ => by simp⟩, ⟨by omega, scs_st _ _, ⟨_, rfl, by rw [oren_fix (S := fun _ => False) (fun i hi => hi.elim) (o := .row 2 n.N.length (s.1.flatMap Ste.cells) 119) (scs_st _ _)]; exact Conv.refl _⟩, .inr (by simp), fun h => by cases h⟩, ⟨by omega, scs_i _ _, ⟨_, rfl, by rw [oren_fix (S := fun _ => False) (fun i hi => hi.elim) (o := .row 1 n.N.length ((s.2 0).map fun x => ii x) 3) (scs_i _ _)]; exact Conv.refl _⟩, .inr (by simp), fun h => by cases h⟩, ⟨by omega, scs_i _ _, ⟨_, rfl, by rw [oren_fix (S := fun _ => False) (fun i hi => hi.elim) (o := .row 1 n.N.length ((s.2 1).map fun x => ii x) 3) (scs_i _ _)]; exact Conv.refl _⟩, .inr (by simp), fun h => by cases h⟩, ⟨by omega, scs_i _ _, ⟨_, rfl, by rw [oren_fix (S := fun _ => False) (fun i hi => hi.elim) (o := .row 1 n.N.length ((s.2 2).map fun x => ii x) 3) (scs_i _ _)]; exact Conv.refl _⟩, .inr (by simp), fun h => by cases h⟩, ⟨by omega, scs_i _ _, ⟨_, rfl, by rw [oren_fix (S := fun _ => False) (fun i hi => hi.elim) (o := .row 1 n.N.length ((s.2 3).map fun x => ii x) 3) (scs_i _ _)]; exact Conv.refl _⟩, .inr (by simp), fun h => by cases h⟩, ⟨by omega, scs_i _ _, ⟨_, rfl, by rw [oren_fix (S := fun _ => False) (fun i hi => hi.elim) (o := .row 1 n.N.length ((s.2 4).map fun x => ii x) 3) (scs_i _ _)]; exact Conv.refl _⟩, .inr (by simp), fun h => by cases h⟩, ⟨by omega, scs_i _ _, ⟨_, rfl, by rw [oren_fix (S := fun _ => False) (fun i hi => hi.elim) (o := .row 1 n.N.length ((s.2 5).map fun x => ii x) 3) (scs_i _ _)]; exact Conv.refl _⟩, .inr (by simp), fun h => by cases h⟩, ⟨by omega, scs_i _ _, ⟨_, rfl, by rw [oren_fix (S := fun _ => False) (fun i hi => hi.elim) (o := .row 1 n.N.length ((s.2 6).map fun x => ii x) 3) (scs_i _ _)]; exact Conv.refl _⟩, .inr (by simp), fun h => by cases h⟩, ⟨by omega, scs_i _ _, ⟨_, rfl, by rw [oren_fix (S := fun _ => False) (fun i hi => hi.elim) (o := .row 1 n.N.length ((s.2 7).map fun x => ii x) 3) (scs_i _ _)]; exact Conv.refl _⟩, .inr (by simp), fun h => by cases h⟩, ⟨by omega, scs_i _ _, ⟨_, rfl, by rw [oren_fix (S := fun _ => False) (fun i hi => hi.elim) (o := .row 1 n.N.length ((s.2 8).map fun x => ii x) 3) (scs_i _ _)]; exact Conv.refl _⟩, .inr (by simp), fun h => by cases h⟩, ⟨by omega, scs_i _ _, ⟨_, rfl, by rw [oren_fix (S := fun _ => False) (fun i hi => hi.elim) (o := .row 1 n.N.length ((s.2 9).map fun x => ii x) 3) (scs_i _ _)]; exact Conv.refl _⟩, .inr (by simp), fun h => by cases h⟩, ⟨by omega, scs_i _ _, ⟨_, rfl, by rw [oren_fix (S := fun _ => False) (fun i hi => hi.elim) (o := .row 1 n.N.length ((s.2 10).map fun x => ii x) 3) (scs_i _ _)]; exact Conv.refl _⟩, .inr (by simp), fun h => by cases h⟩, ⟨by omega, scs_i _ _, ⟨_, rfl, by rw [oren_fix (S := fun _ => False) (fun i hi => hi.elim) (o := .row 1 n.N.length ((s.2 11).map fun x => ii x) 3) (scs_i _ _)]; exact Conv.refl _⟩, .inr (by simp), fun h => by cases h⟩, ⟨by omega, scs_i _ _, ⟨_, rfl, by rw [oren_fix (S := fun _ => False) (fun i hi => hi.elim) (o := .row 1 n.N.length ((s.2 12).map fun x => ii x) 3) (scs_i _ _)]; exact Conv.refl _⟩, .inr (by simp), fun h => by cases h⟩, ⟨by omega, scs_i _ _, ⟨_, rfl, by rw [oren_fix (S := fun _ => False) (fun i hi => hi.elim) (o := .row 1 n.N.length ((s.2 13).map fun x => ii x) 3) (scs_i _ _)]; exact Conv.refl _⟩, .inr (by simp), fun h => by cases h⟩, ⟨by omega, scs_i _ _, ⟨_, rfl, by rw [oren_fix (S := fun _ => False) (fun i hi => hi.elim) (o := .row 1 n.N.length ((s.2 14).map fun x => ii x) 3) (scs_i _ _)]; exact Conv.refl _⟩, .inr (by simp), fun h => by cases h⟩, ⟨by omega, scs_i _ _, ⟨_, rfl, by rw [oren_fix (S := fun _ => False) (fun i hi => hi.elim) (o := .row 1 n.N.length ((s.2 15).map fun x => ii x) 3) (scs_i _ _)]; exact Conv.refl _⟩, .inr (by simp), fun h => by cases h⟩, ⟨by omega, trivial, ⟨_, rfl, Conv.row (by decide) (ints_iv _)⟩, .inl rfl, fun _ => by simp⟩, trivial⟩ (fun q hq => by
          have hq2 : q = 0 ∨ q = 3 ∨ q = 4 ∨ q = 5 ∨ q = 6 ∨ q = 7 ∨ q = 8 ∨ q = 9 ∨ q = 10 ∨ q = 11 ∨ q = 12 ∨ q = 13 ∨ q = 14 ∨ q = 15 ∨ q = 16 ∨ q = 17 ∨ q = 18 ∨ q = 19 := by simpa using hq
          rcases hq2 with rfl | rfl | rfl | rfl | rfl | rfl | rfl | rfl | rfl | rfl | rfl | rfl | rfl | rfl | rfl | rfl | rfl | rfl <;> exact ⟨by omega, _, rfl⟩) (.opq 32) [(32, .row 1 o.length (o.map fun x => ii x) 3), (5, .cells [.opq 6, ii n.inp, .opq 25, .mp 7, ii ((i + 1 : Nat) : Int), .opq 8, .opq 9, .opq 10, .opq 11, .opq 12, .opq 13, .opq 14, .opq 15, .opq 16, .opq 17, .opq 18, .opq 19, .opq 20, .opq 21, .opq 22, .opq 23, .opq 24] 117), (6, .rwin 8 n.N.length (n.N.flatMap Prm.vals)), (7, swS n.S), (8, .row 2 n.N.length (s2.1.flatMap Ste.cells) 119), (9, .row 1 n.N.length ((s2.2 0).map fun x => ii x) 3), (10, .row 1 n.N.length ((s2.2 1).map fun x => ii x) 3), (11, .row 1 n.N.length ((s2.2 2).map fun x => ii x) 3), (12, .row 1 n.N.length ((s2.2 3).map fun x => ii x) 3), (13, .row 1 n.N.length ((s2.2 4).map fun x => ii x) 3), (14, .row 1 n.N.length ((s2.2 5).map fun x => ii x) 3), (15, .row 1 n.N.length ((s2.2 6).map fun x => ii x) 3), (16, .row 1 n.N.length ((s2.2 7).map fun x => ii x) 3), (17, .row 1 n.N.length ((s2.2 8).map fun x => ii x) 3), (18, .row 1 n.N.length ((s2.2 9).map fun x => ii x) 3), (19, .row 1 n.N.length ((s2.2 10).map fun x => ii x) 3), (20, .row 1 n.N.length ((s2.2 11).map fun x => ii x) 3), (21, .row 1 n.N.length ((s2.2 12).map fun x => ii x) 3), (22, .row 1 n.N.length ((s2.2 13).map fun x => ii x) 3), (23, .row 1 n.N.length ((s2.2 14).map fun x => ii x) 3), (24, .row 1 n.N.length ((s2.2 15).map fun x => ii x) 3), (26, .cells [.opq 30] 95), (27, .row 2 O.length (O.flatMap Evt.cells) 45), (30, .rwin 2 (X.drop (nAt ((i : Nat) : Int) X)).length ((X.drop (nAt ((i : Nat) : Int) X)).flatMap Evt.vals)), (3, .pin plp)] 33 rfl rfl
        ⟨.inr ⟨22, _, rfl, rfl, by rw [oren_fix (S := fun _ => False) (fun i hi => hi.elim) (o := .row 1 o.length (o.map fun x => ii x) 3) (scs_i _ _)], rfl⟩, .inr ⟨0, _, rfl, rfl, rfl, rfl⟩, .inl ⟨rfl, hisn 6 (by decide)⟩, .inl ⟨rfl, hisn 7 (by decide)⟩, .inr ⟨3, _, rfl, rfl, by rw [oren_fix (S := fun _ => False) (fun i hi => hi.elim) (o := .row 2 n.N.length (s2.1.flatMap Ste.cells) 119) (scs_st _ _)], rfl⟩, .inr ⟨4, _, rfl, rfl, by rw [oren_fix (S := fun _ => False) (fun i hi => hi.elim) (o := .row 1 n.N.length ((s2.2 0).map fun x => ii x) 3) (scs_i _ _)], rfl⟩, .inr ⟨5, _, rfl, rfl, by rw [oren_fix (S := fun _ => False) (fun i hi => hi.elim) (o := .row 1 n.N.length ((s2.2 1).map fun x => ii x) 3) (scs_i _ _)], rfl⟩, .inr ⟨6, _, rfl, rfl, by rw [oren_fix (S := fun _ => False) (fun i hi => hi.elim) (o := .row 1 n.N.length ((s2.2 2).map fun x => ii x) 3) (scs_i _ _)], rfl⟩, .inr ⟨7, _, rfl, rfl, by rw [oren_fix (S := fun _ => False) (fun i hi => hi.elim) (o := .row 1 n.N.length ((s2.2 3).map fun x => ii x) 3) (scs_i _ _)], rfl⟩, .inr ⟨8, _, rfl, rfl, by rw [oren_fix (S := fun _ => False) (fun i hi => hi.elim) (o := .row 1 n.N.length ((s2.2 4).map fun x => ii x) 3) (scs_i _ _)], rfl⟩, .inr ⟨9, _, rfl, rfl, by rw [oren_fix (S := fun _ => False) (fun i hi => hi.elim) (o := .row 1 n.N.length ((s2.2 5).map fun x => ii x) 3) (scs_i _ _)], rfl⟩, .inr ⟨10, _, rfl, rfl, by rw [oren_fix (S := fun _ => False) (fun i hi => hi.elim) (o := .row 1 n.N.length ((s2.2 6).map fun x => ii x) 3) (scs_i _ _)], rfl⟩, .inr ⟨11, _, rfl, rfl, by rw [oren_fix (S := fun _ => False) (fun i hi => hi.elim) (o := .row 1 n.N.length ((s2.2 7).map fun x => ii x) 3) (scs_i _ _)], rfl⟩, .inr ⟨12, _, rfl, rfl, by rw [oren_fix (S := fun _ => False) (fun i hi => hi.elim) (o := .row 1 n.N.length ((s2.2 8).map fun x => ii x) 3) (scs_i _ _)], rfl⟩, .inr ⟨13, _, rfl, rfl, by rw [oren_fix (S := fun _ => False) (fun i hi => hi.elim) (o := .row 1 n.N.length ((s2.2 9).map fun x => ii x) 3) (scs_i _ _)], rfl⟩, .inr ⟨14, _, rfl, rfl, by rw [oren_fix (S := fun _ => False) (fun i hi => hi.elim) (o := .row 1 n.N.length ((s2.2 10).map fun x => ii x) 3) (scs_i _ _)], rfl⟩, .inr ⟨15, _, rfl, rfl, by rw [oren_fix (S := fun _ => False) (fun i hi => hi.elim) (o := .row 1 n.N.length ((s2.2 11).map fun x => ii x) 3) (scs_i _ _)], rfl⟩, .inr ⟨16, _, rfl, rfl, by rw [oren_fix (S := fun _ => False) (fun i hi => hi.elim) (o := .row 1 n.N.length ((s2.2 12).map fun x => ii x) 3) (scs_i _ _)], rfl⟩, .inr ⟨17, _, rfl, rfl, by rw [oren_fix (S := fun _ => False) (fun i hi => hi.elim) (o := .row 1 n.N.length ((s2.2 13).map fun x => ii x) 3) (scs_i _ _)], rfl⟩, .inr ⟨18, _, rfl, rfl, by rw [oren_fix (S := fun _ => False) (fun i hi => hi.elim) (o := .row 1 n.N.length ((s2.2 14).map fun x => ii x) 3) (scs_i _ _)], rfl⟩, .inr ⟨19, _, rfl, rfl, by rw [oren_fix (S := fun _ => False) (fun i hi => hi.elim) (o := .row 1 n.N.length ((s2.2 15).map fun x => ii x) 3) (scs_i _ _)], rfl⟩, .inl ⟨rfl, hisn 26 (by decide)⟩, .inl ⟨rfl, hisn 27 (by decide)⟩, .inl ⟨rfl, hisn 30 (by decide)⟩, .inl ⟨rfl, hisn 3 (by decide)⟩, trivial⟩ ?_
      refine Run.of_wpK (hc w1 LL none (fun _ h => by cases h)) 1000 _ ?_
      conv => whnf
      refine Run.trim (T' := [(9, .ptr 5 0), (10, .ptr 26 0), (11, .opq 27), (27, ii (K : Int)), (28, ii ((i : Nat) : Int)), (12, ii ((i : Nat) : Int)), (35, .opq 32), (36, ii (o.length : Int)), (37, ii ((0 : Nat) : Int))]) (M' := [(32, .row 1 o.length (o.map fun x => ii x) 3), (5, .cells [.opq 6, ii n.inp, .opq 25, .mp 7, ii ((i + 1 : Nat) : Int), .opq 8, .opq 9, .opq 10, .opq 11, .opq 12, .opq 13, .opq 14, .opq 15, .opq 16, .opq 17, .opq 18, .opq 19, .opq 20, .opq 21, .opq 22, .opq 23, .opq 24] 117), (6, .rwin 8 n.N.length (n.N.flatMap Prm.vals)), (7, swS n.S), (8, .row 2 n.N.length (s2.1.flatMap Ste.cells) 119), (9, .row 1 n.N.length ((s2.2 0).map fun x => ii x) 3), (10, .row 1 n.N.length ((s2.2 1).map fun x => ii x) 3), (11, .row 1 n.N.length ((s2.2 2).map fun x => ii x) 3), (12, .row 1 n.N.length ((s2.2 3).map fun x => ii x) 3), (13, .row 1 n.N.length ((s2.2 4).map fun x => ii x) 3), (14, .row 1 n.N.length ((s2.2 5).map fun x => ii x) 3), (15, .row 1 n.N.length ((s2.2 6).map fun x => ii x) 3), (16, .row 1 n.N.length ((s2.2 7).map fun x => ii x) 3), (17, .row 1 n.N.length ((s2.2 8).map fun x => ii x) 3), (18, .row 1 n.N.length ((s2.2 9).map fun x => ii x) 3), (19, .row 1 n.N.length ((s2.2 10).map fun x => ii x) 3), (20, .row 1 n.N.length ((s2.2 11).map fun x => ii x) 3), (21, .row 1 n.N.length ((s2.2 12).map fun x => ii x) 3), (22, .row 1 n.N.length ((s2.2 13).map fun x => ii x) 3), (23, .row 1 n.N.length ((s2.2 14).map fun x => ii x) 3), (24, .row 1 n.N.length ((s2.2 15).map fun x => ii x) 3), (26, .cells [.opq 30] 95), (27, .row 2 (O ++ spk ((i : Nat) : Int) (o.take 0)).length ((O ++ spk ((i : Nat) : Int) (o.take 0)).flatMap Evt.cells) 45), (30, .rwin 2 (X.drop (nAt ((i : Nat) : Int) X)).length ((X.drop (nAt ((i : Nat) : Int) X)).flatMap Evt.vals)), (3, .pin plp)]) 33 ⟨⟨rfl, (show 5 < 33 by decide)⟩, ⟨rfl, (show 26 < 33 by decide)⟩, ⟨rfl, (show 27 < 33 by decide)⟩, ⟨rfl, trivial⟩, ⟨rfl, trivial⟩, ⟨rfl, trivial⟩, ⟨rfl, (show 32 < 33 by decide)⟩, ⟨rfl, trivial⟩, ⟨rfl, trivial⟩, trivial⟩ ⟨⟨rfl, by omega, scs_i _ _⟩, ⟨rfl, by omega, by simp [SObj.sc, SV.scs, SV.sc]⟩, ⟨rfl, by omega, trivial⟩, ⟨rfl, by omega, trivial⟩, ⟨rfl, by omega, scs_st _ _⟩, ⟨rfl, by omega, scs_i _ _⟩, ⟨rfl, by omega, scs_i _ _⟩, ⟨rfl, by omega, scs_i _ _⟩, ⟨rfl, by omega, scs_i _ _⟩, ⟨rfl, by omega, scs_i _ _⟩, ⟨rfl, by omega, scs_i _ _⟩, ⟨rfl, by omega, scs_i _ _⟩, ⟨rfl, by omega, scs_i _ _⟩, ⟨rfl, by omega, scs_i _ _⟩, ⟨rfl, by omega, scs_i _ _⟩, ⟨rfl, by omega, scs_i _ _⟩, ⟨rfl, by omega, scs_i _ _⟩, ⟨rfl, by omega, scs_i _ _⟩, ⟨rfl, by omega, scs_i _ _⟩, ⟨rfl, by omega, scs_i _ _⟩, ⟨rfl, by omega, scs_i _ _⟩, ⟨rfl, by omega, by simp [SObj.sc, SV.scs, SV.sc]⟩, ⟨by rw [show spk ((i : Nat) : Int) (o.take 0) = [] from rfl, List.append_nil]; rfl, by omega, scs_evts _ _⟩, ⟨rfl, by omega, trivial⟩, ⟨rfl, by omega, fun p hp => Nat.lt_of_lt_of_le (hcov.1 p hp) (show 3 ≤ 33 by decide)⟩, trivial⟩ (fun p hp => by have := hHL p hp; omega) ?_
      refine Run.upToJ (T := fun j => [(9, .ptr 5 0), (10, .ptr 26 0), (11, .opq 27), (27, ii (K : Int)), (28, ii ((i : Nat) : Int)), (12, ii ((i : Nat) : Int)), (35, .opq 32), (36, ii (o.length : Int)), (37, ii ((j : Nat) : Int))]) (M := fun j => [(32, .row 1 o.length (o.map fun x => ii x) 3), (5, .cells [.opq 6, ii n.inp, .opq 25, .mp 7, ii ((i + 1 : Nat) : Int), .opq 8, .opq 9, .opq 10, .opq 11, .opq 12, .opq 13, .opq 14, .opq 15, .opq 16, .opq 17, .opq 18, .opq 19, .opq 20, .opq 21, .opq 22, .opq 23, .opq 24] 117), (6, .rwin 8 n.N.length (n.N.flatMap Prm.vals)), (7, swS n.S), (8, .row 2 n.N.length (s2.1.flatMap Ste.cells) 119), (9, .row 1 n.N.length ((s2.2 0).map fun x => ii x) 3), (10, .row 1 n.N.length ((s2.2 1).map fun x => ii x) 3), (11, .row 1 n.N.length ((s2.2 2).map fun x => ii x) 3), (12, .row 1 n.N.length ((s2.2 3).map fun x => ii x) 3), (13, .row 1 n.N.length ((s2.2 4).map fun x => ii x) 3), (14, .row 1 n.N.length ((s2.2 5).map fun x => ii x) 3), (15, .row 1 n.N.length ((s2.2 6).map fun x => ii x) 3), (16, .row 1 n.N.length ((s2.2 7).map fun x => ii x) 3), (17, .row 1 n.N.length ((s2.2 8).map fun x => ii x) 3), (18, .row 1 n.N.length ((s2.2 9).map fun x => ii x) 3), (19, .row 1 n.N.length ((s2.2 10).map fun x => ii x) 3), (20, .row 1 n.N.length ((s2.2 11).map fun x => ii x) 3), (21, .row 1 n.N.length ((s2.2 12).map fun x => ii x) 3), (22, .row 1 n.N.length ((s2.2 13).map fun x => ii x) 3), (23, .row 1 n.N.length ((s2.2 14).map fun x => ii x) 3), (24, .row 1 n.N.length ((s2.2 15).map fun x => ii x) 3), (26, .cells [.opq 30] 95), (27, .row 2 (O ++ spk ((i : Nat) : Int) (o.take j)).length ((O ++ spk ((i : Nat) : Int) (o.take j)).flatMap Evt.cells) 45), (30, .rwin 2 (X.drop (nAt ((i : Nat) : Int) X)).length ((X.drop (nAt ((i : Nat) : Int) X)).flatMap Evt.vals)), (3, .pin plp)]) (fun _ => True) o.length trivial ?_ ?_
      · intro j hj _ ih2
        have hol : (O ++ spk ((i : Nat) : Int) (o.take j)).length ≤ 131072 := by
          simp only [spk, List.length_append, List.length_map, List.length_take]
          omega
        refine Run.of_wpK (hc w1 LL none (fun _ h => by cases h)) 1000 _ ?_
        conv => whnf
        rw [decide_eq_true (show ((j : Nat) : Int) < (o.length : Int) by omega)]
        conv => whnf
        refine ⟨by omega, ?_⟩
        conv => whnf
        rw [opF_loadRow1 j rfl rfl rfl rfl (by rw [idx_nat, Nat.mul_one]) hj]
        conv => whnf
        refine ⟨by omega, ?_⟩
        conv => whnf
        refine Run.trimQ (T' := [(9, .ptr 5 0), (10, .ptr 26 0), (11, .opq 27), (27, ii (K : Int)), (28, ii ((i : Nat) : Int)), (12, ii ((i : Nat) : Int)), (35, .opq 32), (36, ii (o.length : Int)), (37, ii ((j + 1 : Nat) : Int))]) (M' := [(32, .row 1 o.length (o.map fun x => ii x) 3), (5, .cells [.opq 6, ii n.inp, .opq 25, .mp 7, ii ((i + 1 : Nat) : Int), .opq 8, .opq 9, .opq 10, .opq 11, .opq 12, .opq 13, .opq 14, .opq 15, .opq 16, .opq 17, .opq 18, .opq 19, .opq 20, .opq 21, .opq 22, .opq 23, .opq 24] 117), (6, .rwin 8 n.N.length (n.N.flatMap Prm.vals)), (7, swS n.S), (8, .row 2 n.N.length (s2.1.flatMap Ste.cells) 119), (9, .row 1 n.N.length ((s2.2 0).map fun x => ii x) 3), (10, .row 1 n.N.length ((s2.2 1).map fun x => ii x) 3), (11, .row 1 n.N.length ((s2.2 2).map fun x => ii x) 3), (12, .row 1 n.N.length ((s2.2 3).map fun x => ii x) 3), (13, .row 1 n.N.length ((s2.2 4).map fun x => ii x) 3), (14, .row 1 n.N.length ((s2.2 5).map fun x => ii x) 3), (15, .row 1 n.N.length ((s2.2 6).map fun x => ii x) 3), (16, .row 1 n.N.length ((s2.2 7).map fun x => ii x) 3), (17, .row 1 n.N.length ((s2.2 8).map fun x => ii x) 3), (18, .row 1 n.N.length ((s2.2 9).map fun x => ii x) 3), (19, .row 1 n.N.length ((s2.2 10).map fun x => ii x) 3), (20, .row 1 n.N.length ((s2.2 11).map fun x => ii x) 3), (21, .row 1 n.N.length ((s2.2 12).map fun x => ii x) 3), (22, .row 1 n.N.length ((s2.2 13).map fun x => ii x) 3), (23, .row 1 n.N.length ((s2.2 14).map fun x => ii x) 3), (24, .row 1 n.N.length ((s2.2 15).map fun x => ii x) 3), (26, .cells [.opq 30] 95), (27, .row 2 (O ++ spk ((i : Nat) : Int) (o.take (j + 1))).length ((O ++ spk ((i : Nat) : Int) (o.take (j + 1))).flatMap Evt.cells) 45), (30, .rwin 2 (X.drop (nAt ((i : Nat) : Int) X)).length ((X.drop (nAt ((i : Nat) : Int) X)).flatMap Evt.vals)), (3, .pin plp)]) (rq [(27, 34), (34, 27)]) 33 ?_ ?_ ?_ ?_ (ih2 trivial)
        · intro i hi j hj hne he
          have inv : ∀ i, i < 33 → rq [(27, 34), (34, 27)] (rq [(27, 34), (34, 27)] i) = i := by decide
          exact hne (by rw [← inv i hi, he, inv j hj])
        · exact ⟨⟨rfl, (show 5 < 33 by decide)⟩, ⟨rfl, (show 26 < 33 by decide)⟩, ⟨rfl, (show 27 < 33 by decide)⟩, ⟨rfl, trivial⟩, ⟨rfl, trivial⟩, ⟨rfl, trivial⟩, ⟨rfl, (show 32 < 33 by decide)⟩, ⟨rfl, trivial⟩, ⟨congrArg some (congrArg ii (wrap_succ (by omega))), trivial⟩, trivial⟩
        · exact ⟨⟨congrArg some (oren_fix (S := fun _ => False) (fun i hi => hi.elim) (o := .row 1 o.length (o.map fun x => ii x) 3) (scs_i _ _)).symm, by omega, scs_i _ _⟩, ⟨rfl, by omega, by simp [SObj.sc, SV.scs, SV.sc]⟩, ⟨rfl, by omega, trivial⟩, ⟨rfl, by omega, trivial⟩, ⟨congrArg some (oren_fix (S := fun _ => False) (fun i hi => hi.elim) (o := .row 2 n.N.length (s2.1.flatMap Ste.cells) 119) (scs_st _ _)).symm, by omega, scs_st _ _⟩, ⟨congrArg some (oren_fix (S := fun _ => False) (fun i hi => hi.elim) (o := .row 1 n.N.length ((s2.2 0).map fun x => ii x) 3) (scs_i _ _)).symm, by omega, scs_i _ _⟩, ⟨congrArg some (oren_fix (S := fun _ => False) (fun i hi => hi.elim) (o := .row 1 n.N.length ((s2.2 1).map fun x => ii x) 3) (scs_i _ _)).symm, by omega, scs_i _ _⟩, ⟨congrArg some (oren_fix (S := fun _ => False) (fun i hi => hi.elim) (o := .row 1 n.N.length ((s2.2 2).map fun x => ii x) 3) (scs_i _ _)).symm, by omega, scs_i _ _⟩, ⟨congrArg some (oren_fix (S := fun _ => False) (fun i hi => hi.elim) (o := .row 1 n.N.length ((s2.2 3).map fun x => ii x) 3) (scs_i _ _)).symm, by omega, scs_i _ _⟩, ⟨congrArg some (oren_fix (S := fun _ => False) (fun i hi => hi.elim) (o := .row 1 n.N.length ((s2.2 4).map fun x => ii x) 3) (scs_i _ _)).symm, by omega, scs_i _ _⟩, ⟨congrArg some (oren_fix (S := fun _ => False) (fun i hi => hi.elim) (o := .row 1 n.N.length ((s2.2 5).map fun x => ii x) 3) (scs_i _ _)).symm, by omega, scs_i _ _⟩, ⟨congrArg some (oren_fix (S := fun _ => False) (fun i hi => hi.elim) (o := .row 1 n.N.length ((s2.2 6).map fun x => ii x) 3) (scs_i _ _)).symm, by omega, scs_i _ _⟩, ⟨congrArg some (oren_fix (S := fun _ => False) (fun i hi => hi.elim) (o := .row 1 n.N.length ((s2.2 7).map fun x => ii x) 3) (scs_i _ _)).symm, by omega, scs_i _ _⟩, ⟨congrArg some (oren_fix (S := fun _ => False) (fun i hi => hi.elim) (o := .row 1 n.N.length ((s2.2 8).map fun x => ii x) 3) (scs_i _ _)).symm, by omega, scs_i _ _⟩, ⟨congrArg some (oren_fix (S := fun _ => False) (fun i hi => hi.elim) (o := .row 1 n.N.length ((s2.2 9).map fun x => ii x) 3) (scs_i _ _)).symm, by omega, scs_i _ _⟩, ⟨congrArg some (oren_fix (S := fun _ => False) (fun i hi => hi.elim) (o := .row 1 n.N.length ((s2.2 10).map fun x => ii x) 3) (scs_i _ _)).symm, by omega, scs_i _ _⟩, ⟨congrArg some (oren_fix (S := fun _ => False) (fun i hi => hi.elim) (o := .row 1 n.N.length ((s2.2 11).map fun x => ii x) 3) (scs_i _ _)).symm, by omega, scs_i _ _⟩, ⟨congrArg some (oren_fix (S := fun _ => False) (fun i hi => hi.elim) (o := .row 1 n.N.length ((s2.2 12).map fun x => ii x) 3) (scs_i _ _)).symm, by omega, scs_i _ _⟩, ⟨congrArg some (oren_fix (S := fun _ => False) (fun i hi => hi.elim) (o := .row 1 n.N.length ((s2.2 13).map fun x => ii x) 3) (scs_i _ _)).symm, by omega, scs_i _ _⟩, ⟨congrArg some (oren_fix (S := fun _ => False) (fun i hi => hi.elim) (o := .row 1 n.N.length ((s2.2 14).map fun x => ii x) 3) (scs_i _ _)).symm, by omega, scs_i _ _⟩, ⟨congrArg some (oren_fix (S := fun _ => False) (fun i hi => hi.elim) (o := .row 1 n.N.length ((s2.2 15).map fun x => ii x) 3) (scs_i _ _)).symm, by omega, scs_i _ _⟩, ⟨rfl, by omega, by simp [SObj.sc, SV.scs, SV.sc]⟩, ⟨by rw [oren_fix (S := fun _ => False) (fun i hi => hi.elim) (o := .row 2 (O ++ spk ((i : Nat) : Int) (o.take (j + 1))).length ((O ++ spk ((i : Nat) : Int) (o.take (j + 1))).flatMap Evt.cells) 45) (scs_evts _ _), spk_take hj, ← List.append_assoc]; generalize O ++ spk _ (o.take j) = Z; rw [List.length_append, List.flatMap_append]; rfl, by omega, scs_evts _ _⟩, ⟨rfl, by omega, trivial⟩, ⟨congrArg some (pin_fix hcov (fun i hi => rq_fix (rq_noneB (B := 3) rfl hi))).symm, by omega, fun p hp => Nat.lt_of_lt_of_le (hcov.1 p hp) (show 3 ≤ 33 by decide)⟩, trivial⟩
        · intro p hp
          have := hHL p hp
          exact ⟨rq_fix (rq_noneB (B := 26) rfl this.2.1), by omega⟩
      · intro _
        have hol : (O ++ spk ((i : Nat) : Int) (o.take o.length)).length ≤ 65536 := by
          rw [← eO]
          exact Nat.le_trans (nO_len n l (i + 1)) (Nat.le_trans (Nat.mul_le_mul_right _ (by omega)) hK)
        refine Run.of_wpK (hc w1 LL none (fun _ h => by cases h)) 1000 _ ?_
        conv => whnf
        rw [decide_eq_false (show ¬ ((o.length : Nat) : Int) < (o.length : Int) by omega)]
        conv => whnf
        rw [decide_eq_false (show ¬ (65536 : Int) < ((O ++ spk ((i : Nat) : Int) (o.take o.length)).length : Int) by omega)]
        conv => whnf
        rw [eO, hev, hs2] at ih
        refine Run.trimQ (T' := [(9, .ptr 5 0), (10, .ptr 26 0), (11, .opq 27), (27, ii (K : Int)), (28, ii ((i + 1 : Nat) : Int))]) (M' := [(5, .cells [.opq 6, ii n.inp, .opq 25, .mp 7, ii ((i + 1 : Nat) : Int), .opq 8, .opq 9, .opq 10, .opq 11, .opq 12, .opq 13, .opq 14, .opq 15, .opq 16, .opq 17, .opq 18, .opq 19, .opq 20, .opq 21, .opq 22, .opq 23, .opq 24] 117), (6, .rwin 8 n.N.length (n.N.flatMap Prm.vals)), (7, swS n.S), (8, .row 2 n.N.length (s2.1.flatMap Ste.cells) 119), (9, .row 1 n.N.length ((s2.2 0).map fun x => ii x) 3), (10, .row 1 n.N.length ((s2.2 1).map fun x => ii x) 3), (11, .row 1 n.N.length ((s2.2 2).map fun x => ii x) 3), (12, .row 1 n.N.length ((s2.2 3).map fun x => ii x) 3), (13, .row 1 n.N.length ((s2.2 4).map fun x => ii x) 3), (14, .row 1 n.N.length ((s2.2 5).map fun x => ii x) 3), (15, .row 1 n.N.length ((s2.2 6).map fun x => ii x) 3), (16, .row 1 n.N.length ((s2.2 7).map fun x => ii x) 3), (17, .row 1 n.N.length ((s2.2 8).map fun x => ii x) 3), (18, .row 1 n.N.length ((s2.2 9).map fun x => ii x) 3), (19, .row 1 n.N.length ((s2.2 10).map fun x => ii x) 3), (20, .row 1 n.N.length ((s2.2 11).map fun x => ii x) 3), (21, .row 1 n.N.length ((s2.2 12).map fun x => ii x) 3), (22, .row 1 n.N.length ((s2.2 13).map fun x => ii x) 3), (23, .row 1 n.N.length ((s2.2 14).map fun x => ii x) 3), (24, .row 1 n.N.length ((s2.2 15).map fun x => ii x) 3), (26, .cells [.opq 28] 95), (27, .row 2 (O ++ spk ((i : Nat) : Int) (o.take o.length)).length ((O ++ spk ((i : Nat) : Int) (o.take o.length)).flatMap Evt.cells) 45), (28, .rwin 2 (X.drop (nAt ((i : Nat) : Int) X)).length ((X.drop (nAt ((i : Nat) : Int) X)).flatMap Evt.vals)), (3, .pin plp)]) (rq [(28, 30), (30, 28)]) 29 ?_ ?_ ?_ ?_ (ih trivial)
        · intro i hi j hj hne he
          have inv : ∀ i, i < 29 → rq [(28, 30), (30, 28)] (rq [(28, 30), (30, 28)] i) = i := by decide
          exact hne (by rw [← inv i hi, he, inv j hj])
        · exact ⟨⟨rfl, (show 5 < 29 by decide)⟩, ⟨rfl, (show 26 < 29 by decide)⟩, ⟨rfl, (show 27 < 29 by decide)⟩, ⟨rfl, trivial⟩, ⟨congrArg some (congrArg ii (wrap_succ (by omega))), trivial⟩, trivial⟩
        · exact ⟨⟨rfl, by omega, by simp [SObj.sc, SV.scs, SV.sc]⟩, ⟨rfl, by omega, trivial⟩, ⟨rfl, by omega, trivial⟩, ⟨congrArg some (oren_fix (S := fun _ => False) (fun i hi => hi.elim) (o := .row 2 n.N.length (s2.1.flatMap Ste.cells) 119) (scs_st _ _)).symm, by omega, scs_st _ _⟩, ⟨congrArg some (oren_fix (S := fun _ => False) (fun i hi => hi.elim) (o := .row 1 n.N.length ((s2.2 0).map fun x => ii x) 3) (scs_i _ _)).symm, by omega, scs_i _ _⟩, ⟨congrArg some (oren_fix (S := fun _ => False) (fun i hi => hi.elim) (o := .row 1 n.N.length ((s2.2 1).map fun x => ii x) 3) (scs_i _ _)).symm, by omega, scs_i _ _⟩, ⟨congrArg some (oren_fix (S := fun _ => False) (fun i hi => hi.elim) (o := .row 1 n.N.length ((s2.2 2).map fun x => ii x) 3) (scs_i _ _)).symm, by omega, scs_i _ _⟩, ⟨congrArg some (oren_fix (S := fun _ => False) (fun i hi => hi.elim) (o := .row 1 n.N.length ((s2.2 3).map fun x => ii x) 3) (scs_i _ _)).symm, by omega, scs_i _ _⟩, ⟨congrArg some (oren_fix (S := fun _ => False) (fun i hi => hi.elim) (o := .row 1 n.N.length ((s2.2 4).map fun x => ii x) 3) (scs_i _ _)).symm, by omega, scs_i _ _⟩, ⟨congrArg some (oren_fix (S := fun _ => False) (fun i hi => hi.elim) (o := .row 1 n.N.length ((s2.2 5).map fun x => ii x) 3) (scs_i _ _)).symm, by omega, scs_i _ _⟩, ⟨congrArg some (oren_fix (S := fun _ => False) (fun i hi => hi.elim) (o := .row 1 n.N.length ((s2.2 6).map fun x => ii x) 3) (scs_i _ _)).symm, by omega, scs_i _ _⟩, ⟨congrArg some (oren_fix (S := fun _ => False) (fun i hi => hi.elim) (o := .row 1 n.N.length ((s2.2 7).map fun x => ii x) 3) (scs_i _ _)).symm, by omega, scs_i _ _⟩, ⟨congrArg some (oren_fix (S := fun _ => False) (fun i hi => hi.elim) (o := .row 1 n.N.length ((s2.2 8).map fun x => ii x) 3) (scs_i _ _)).symm, by omega, scs_i _ _⟩, ⟨congrArg some (oren_fix (S := fun _ => False) (fun i hi => hi.elim) (o := .row 1 n.N.length ((s2.2 9).map fun x => ii x) 3) (scs_i _ _)).symm, by omega, scs_i _ _⟩, ⟨congrArg some (oren_fix (S := fun _ => False) (fun i hi => hi.elim) (o := .row 1 n.N.length ((s2.2 10).map fun x => ii x) 3) (scs_i _ _)).symm, by omega, scs_i _ _⟩, ⟨congrArg some (oren_fix (S := fun _ => False) (fun i hi => hi.elim) (o := .row 1 n.N.length ((s2.2 11).map fun x => ii x) 3) (scs_i _ _)).symm, by omega, scs_i _ _⟩, ⟨congrArg some (oren_fix (S := fun _ => False) (fun i hi => hi.elim) (o := .row 1 n.N.length ((s2.2 12).map fun x => ii x) 3) (scs_i _ _)).symm, by omega, scs_i _ _⟩, ⟨congrArg some (oren_fix (S := fun _ => False) (fun i hi => hi.elim) (o := .row 1 n.N.length ((s2.2 13).map fun x => ii x) 3) (scs_i _ _)).symm, by omega, scs_i _ _⟩, ⟨congrArg some (oren_fix (S := fun _ => False) (fun i hi => hi.elim) (o := .row 1 n.N.length ((s2.2 14).map fun x => ii x) 3) (scs_i _ _)).symm, by omega, scs_i _ _⟩, ⟨congrArg some (oren_fix (S := fun _ => False) (fun i hi => hi.elim) (o := .row 1 n.N.length ((s2.2 15).map fun x => ii x) 3) (scs_i _ _)).symm, by omega, scs_i _ _⟩, ⟨rfl, by omega, by simp [SObj.sc, SV.scs, SV.sc]⟩, ⟨congrArg some (oren_fix (S := fun _ => False) (fun i hi => hi.elim) (o := .row 2 (O ++ spk ((i : Nat) : Int) (o.take o.length)).length ((O ++ spk ((i : Nat) : Int) (o.take o.length)).flatMap Evt.cells) 45) (scs_evts _ _)).symm, by omega, scs_evts _ _⟩, ⟨rfl, by omega, trivial⟩, ⟨congrArg some (pin_fix hcov (fun i hi => rq_fix (rq_noneB (B := 3) rfl hi))).symm, by omega, fun p hp => Nat.lt_of_lt_of_le (hcov.1 p hp) (show 3 ≤ 29 by decide)⟩, trivial⟩
        · intro p hp
          have := hHL p hp
          exact ⟨rq_fix (rq_noneB (B := 26) rfl this.2.1), by omega⟩

  · intro _
    refine Run.of_wpK (hc w1 LL none (fun _ h => by cases h)) 1000 _ ?_
    conv => whnf
    rw [decide_eq_false (show ¬ ((K : Nat) : Int) < (K : Int) by omega)]
    conv => whnf
    rw [← hRR]
    exact ⟨fun ρ w' hW hsc => (SpecR.intro (v := .tup [.opq 3, ii 0]) (M1 := [(3, .row 2 (nO n l K).length ((nO n l K).flatMap Evt.cells) 45)]) (n1 := 4) (c := ⟨Try.prog, tab, [], 16, Try.f16, [], w, [], none⟩) (M := [(27, .row 2 (nO n l K).length ((nO n l K).flatMap Evt.cells) 45), (3, .pin plp)]) (n := 29) (v0 := .tup [.opq 27, ii 0]) 27 (by decide) (fun p hp => by cases hp) (by decide) hcov rfl rfl ⟨(show 3 < 4 by decide), trivial, trivial⟩ ⟨⟨congrArg some (oren_fix (S := fun _ => False) (fun i hi => hi.elim) (o := .row 2 (nO n l K).length ((nO n l K).flatMap Evt.cells) 45) (scs_evts _ _)).symm, by omega, scs_evts _ _⟩, trivial⟩).h ρ w' (hW.back hEE (fun p hp => (hHL p hp).2.2) _ (AllP.mem ⟨⟨rfl, rfl⟩, ⟨rfl, rfl⟩, trivial⟩)) hsc⟩
set_option maxHeartbeats 4000000
theorem cloneInts (v : Value) (n : Nat) (vs : List Value) (w : World) (hr : RowsAt w v 1 n vs) (h1 : ∀ u ∈ vs, u.oneCell' = true) (hn : n ≤ 1000000) : Calls Try.prog 8 #[v] w (ClonePost 3 1 n vs w) := by
  have hc : ∀ f fn cuts L, Try.prog.funcs[f]? = some fn → Cx.ok ⟨Try.prog, tab, [], f, fn, cuts, w, L, none⟩ := fun f fn cuts L h => ⟨tab_ok, trivial, h, mixed, fun _ h => by cases h⟩
  obtain ⟨hl, p, cap, rfl, hcap, hp⟩ := hr
  refine Run.start0 (tab := tab) (pf := []) (cuts := []) mixed tab_ok trivial Try.func8 rfl [.v (.slice p n cap)] 100 ⟨trivial, trivial⟩ rfl ?_
  conv => whnf
  refine Run.eqNilS rfl rfl rfl rfl rfl rfl Try.underlying28 ?_
  cases p with
  | none =>
    refine Run.of_wpK (hc _ _ _ _ Try.func8) 100 _ ?_
    conv => whnf
    have h0 : n = 0 := by
      rcases hp with hp | ⟨_, _, hp, _⟩
      · exact hp
      · cases hp
    subst h0
    have hvs : vs = [] := List.eq_nil_of_length_eq_zero (by simpa using hl)
    subst hvs
    exact ⟨fun ρ w' hW _ => ⟨.slice none 0 0, rfl, hW.toExt, World.ownsRow_nil _ _ _ _⟩⟩
  | some ad =>
    refine Run.of_wpK (hc _ _ _ _ Try.func8) 100 _ ?_
    conv => whnf
    refine Run.slcRowE (T' := [(5, .opq 1), (6, .v (.slice (some ad) n cap))]) (M' := []) 0 1 0 [] 3 rfl rfl (by omega) (AllP.mem ⟨.inr ⟨rfl, rfl⟩, .inl rfl, trivial⟩) (fun x hx => by cases hx) ?_
    refine Run.appendV (hc _ _ _ _ Try.func8) rfl rfl rfl rfl rfl rfl vs rfl hl (fun ρ w1 hW jj u hu => ?_) h1 rfl rfl rfl rfl (by omega) ⟨by omega, by omega⟩ [] (fun x hx => by cases hx) ?_
    · have hr2 : RowsAt w (.slice (some ad) n cap) 1 n vs := ⟨hl, some ad, cap, rfl, hcap, hp⟩
      obtain ⟨_, p2, cap2, h2, _, h3⟩ := hr2.ext hW.toExt
      simp only [Value.slice.injEq] at h2
      obtain ⟨rfl, _, rfl⟩ := h2
      rcases h3 with h3 | ⟨blk, off, h3, h4, h5⟩
      · subst h3
        have hvs : vs = [] := List.eq_nil_of_length_eq_zero (by simpa using hl)
        subst hvs
        cases hu
      · obtain rfl := Option.some.inj h3
        rw [addr_add]; exact h5 jj u hu
    refine Run.of_wpK (hc _ _ _ _ Try.func8) 100 _ ?_
    conv => whnf
    refine ⟨fun ρ w' hW _ => ⟨(SV.opq 2).conc ρ, rfl, hW.toExt, ?_⟩⟩
    have := hW.ownsNew (i := 2) (e := 1) rfl (by omega)
    rw [List.nil_append, concs_v, Nat.zero_add] at this
    exact this
theorem mk_ints : Maker Try.prog 8 (FCl 1 3) := Maker.clone (by decide) (ent _ _ Try.func8 (by kernel_rfl) rfl) cloneInts
theorem one_ints (l : List Int) : ∀ u ∈ ints l, u.oneCell' = true := fun u hu => by obtain ⟨a, _, rfl⟩ := List.mem_map.1 hu; rfl
/-- Frames, in a slice of slices. -/
def FramesAt (w : World) (v : Value) (fs : List (List Int)) : Prop := ∃ vs : List Value, RowsAt w v 1 fs.length vs ∧ vs.length = fs.length ∧ ∀ i (h : i < fs.length) (h' : i < vs.length), RowsAt w vs[i] 1 fs[i].length (ints fs[i])
/-- What a camera sees at a pixel: the levels that are known, and the events. -/
def wPix (c : Cam) (t : Int) (f : List Int) (s : List Int × List Evt) (p : Nat) : List Int × List Evt :=
  if c.step ≤ W (f.getD p 0 - s.1.getD p 0) then (s.1.set p (W (s.1.getD p 0 + c.step)), s.2 ++ [⟨t, W (W (2 * (p : Int)) + 1)⟩])
  else if c.step ≤ W (s.1.getD p 0 - f.getD p 0) then (s.1.set p (W (s.1.getD p 0 - c.step)), s.2 ++ [⟨t, W (2 * (p : Int))⟩])
  else s
def wRow (c : Cam) (t : Int) (f : List Int) (s : List Int × List Evt) (j : Nat) : List Int × List Evt := (List.range j).foldl (wPix c t f) s
def wAll (c : Cam) (fs : List (List Int)) : Nat → List Int × List Evt
  | 0 => (fs.getD 0 [], [])
  | i + 1 => wRow c (i : Int) (fs.getD i []) (wAll c fs i) (fs.getD i []).length
theorem wRow_succ (c : Cam) (t : Int) (f : List Int) (s : List Int × List Evt) (j : Nat) : wRow c t f s (j + 1) = wPix c t f (wRow c t f s j) j := range_fold ..
theorem wPix_len (c : Cam) (t : Int) (f : List Int) (s : List Int × List Evt) (p : Nat) : (wPix c t f s p).1.length = s.1.length ∧ (wPix c t f s p).2.length ≤ s.2.length + 1 := by
  unfold wPix
  split
  · simp
  · split
    · simp
    · exact ⟨rfl, by omega⟩
theorem wRow_len (c : Cam) (t : Int) (f : List Int) (s : List Int × List Evt) : ∀ j, (wRow c t f s j).1.length = s.1.length ∧ (wRow c t f s j).2.length ≤ s.2.length + j
  | 0 => ⟨rfl, Nat.le_refl _⟩
  | j + 1 => by
    rw [wRow_succ]
    have h1 := wPix_len c t f (wRow c t f s j) j
    have h2 := wRow_len c t f s j
    omega
theorem wAll_len (c : Cam) (fs : List (List Int)) (hf : ∀ f ∈ fs, f.length = c.pix) : ∀ i, i ≤ fs.length → (1 ≤ fs.length → (wAll c fs i).1.length = c.pix) ∧ (wAll c fs i).2.length ≤ i * c.pix
  | 0, _ => by
    refine ⟨fun h => ?_, by simp [wAll]⟩
    show (fs.getD 0 []).length = _
    have : fs.getD 0 [] = fs[0] := by simp [List.getD_eq_getElem?_getD, show 0 < fs.length from h]
    rw [this]; exact hf _ (List.getElem_mem _)
  | i + 1, hi => by
    have ih := wAll_len c fs hf i (by omega)
    have hg : fs.getD i [] = fs[i] := by simp [List.getD_eq_getElem?_getD, show i < fs.length from hi]
    have hl : (fs.getD i []).length = c.pix := by rw [hg]; exact hf _ (List.getElem_mem _)
    have h := wRow_len c (i : Int) (fs.getD i []) (wAll c fs i) (fs.getD i []).length
    refine ⟨fun h1 => h.1.trans (ih.1 h1), ?_⟩
    show (wRow c (i : Int) (fs.getD i []) (wAll c fs i) (fs.getD i []).length).2.length ≤ _
    rw [Nat.add_mul]; omega
/-- What Watch returns. -/
def watch (c : Cam) (fs : List (List Int)) : List Evt := (wAll c fs fs.length).2
theorem watch_run (c : Cam) (h : CamOK c) (v : Value) (fs : List (List Int)) (hf : ∀ f ∈ fs, FrameOK c f) (h0 : 1 ≤ fs.length) (h1 : fs.length ≤ 256) (hm : (watch c fs).length ≤ 65536) (w : World) (hv : FramesAt w v fs) :
    Calls Try.prog 4 #[.agg c.vals.toArray, v] w fun e w' => ∃ u, e = .returned (.tuple #[u, .int .i64 0]) ∧ Ext w w' ∧ w'.ownsRow w.heap.size 45 2 u (watch c fs).length ((watch c fs).flatMap Evt.vals) := by
  have hpx := h.pix
  obtain ⟨vs, hv1, hv2, hv3⟩ := hv
  have hall := wAll_len c fs fun f hf' => (hf f hf').len
  have hc : ∀ w L' rd, (∀ p, rd = some p → p ∈ L') → Cx.ok ⟨Try.prog, tab, [(8 + 1000, FCl 1 3), (2000, fun _ _ => none)], 4, Try.f4, [], w, L', rd⟩ := fun w L' rd h => ⟨tab_ok, ⟨mk_ints, trivial, trivial⟩, Try.func4, mixed, h⟩
  have hrows : AllP (fun x : Value × Nat × Nat × List Value => RowsAt w x.1 x.2.1 x.2.2.1 x.2.2.2) [(v, 1, fs.length, vs)] := ⟨hv1, trivial⟩
  have hvsf : vs.flatMap (fun x : Value => [x]) = vs := by
    clear hrows hv1 hv2 hv3
    induction vs with
    | nil => rfl
    | cons a l ih => rw [List.flatMap_cons, ih]; rfl
  refine Run.startW (tab := tab) (pf := [(8 + 1000, FCl 1 3), (2000, fun _ _ => none)]) (cuts := []) Try.func4 rfl _ hrows [.agg [ii c.wide, ii c.high, ii c.step], .opq 0] [.agg c.vals.toArray, v] [(0, .rwin 1 fs.length vs)] 1 rfl rfl (by show [_, (SV.opq 0).conc _] = _; rw [conc_rows hrows (k := 0) rfl]; rfl) (by simp [SV.scs, SV.sc]) rfl (Run.of_wpK (hc w [] none (fun _ h => by cases h)) 100 _ ?_)
  conv => whnf
  refine Run.callE (g := 6) (vs := [.agg [ii c.wide, ii c.high, ii c.step]]) (caps := []) (ii 0) (fun ρ w1 hW => camCheck_run c h w1) (ent _ _ Try.func6 (by kernel_rfl) rfl) rfl rfl rfl rfl rfl rfl rfl trivial ?_
  refine Run.of_wpK (hc w [] none (fun _ h => by cases h)) 1000 _ ?_
  conv => whnf
  rw [decide_eq_false (show ¬ (256 : Int) < (fs.length : Int) by omega)]
  conv => whnf
  refine Run.trim (T' := [(1, .opq 0), (2, .ptr 1 0), (24, .opq 0), (25, ii (fs.length : Int)), (26, ii (((0 : Nat) : Nat) : Int))]) (M' := [(1, .cells [ii c.wide, ii c.high, ii c.step] 27), (0, .rwin 1 fs.length vs)]) 2 ⟨⟨rfl, (show 0 < 2 by decide)⟩, ⟨rfl, (show 1 < 2 by decide)⟩, ⟨rfl, (show 0 < 2 by decide)⟩, ⟨rfl, trivial⟩, ⟨rfl, trivial⟩, trivial⟩ ⟨⟨rfl, by omega, by simp [SObj.sc, SV.scs, SV.sc]⟩, ⟨rfl, by omega, trivial⟩, trivial⟩ (fun p hp => by cases hp) ?_
  refine Run.upToJ (T := fun i => [(1, .opq 0), (2, .ptr 1 0), (24, .opq 0), (25, ii (fs.length : Int)), (26, ii ((i : Nat) : Int))]) (M := fun i => [(1, .cells [ii c.wide, ii c.high, ii c.step] 27), (0, .rwin 1 fs.length vs)]) (fun _ => True) (fs.length) (trivial) ?_ ?_
  · intro i hi hJ ih
    refine Run.of_wpK (hc w [] none (fun _ h => by cases h)) 1000 _ ?_
    conv => whnf
    rw [decide_eq_true (show ((i : Nat) : Int) < (fs.length : Int) by omega)]
    conv => whnf
    have hi2 : i < vs.length := by omega
    obtain ⟨q0, q1, q2, q3, q4, q5⟩ := hv3 i hi hi2
    have hri : RowsAt w (.slice q1 fs[i].length q2) 1 fs[i].length (ints fs[i]) := q3 ▸ hv3 i hi hi2
    refine ⟨by omega, ?_⟩
    conv => whnf
    rw [opF_loadWf (f := fun x : Value => [x]) (l := vs) (c := vs[i]) i 0 rfl rfl (by rw [hvsf]; rfl) rfl (fun _ => rfl) (by rw [idx_nat]; rfl) (by omega) (by decide) rfl, q3]
    conv => whnf
    refine Run.callE (g := 7) (vs := [.agg [ii c.wide, ii c.high, ii c.step], .v (.slice q1 fs[i].length q2)]) (caps := []) (ii 0) (fun ρ w1 hW => frame_run c h _ fs[i] (hf _ (List.getElem_mem _)) w1 (hri.ext hW.toExt)) (ent _ _ Try.func7 (by kernel_rfl) rfl) rfl rfl rfl rfl rfl rfl rfl trivial ?_
    refine Run.of_wpK (hc w [] none (fun _ h => by cases h)) 1000 _ ?_
    conv => whnf
    exact Run.trim (T' := [(1, .opq 0), (2, .ptr 1 0), (24, .opq 0), (25, ii (fs.length : Int)), (26, ii (((i + 1 : Nat) : Nat) : Int))]) (M' := [(1, .cells [ii c.wide, ii c.high, ii c.step] 27), (0, .rwin 1 fs.length vs)]) 2 ⟨⟨rfl, (show 0 < 2 by decide)⟩, ⟨rfl, (show 1 < 2 by decide)⟩, ⟨rfl, (show 0 < 2 by decide)⟩, ⟨rfl, trivial⟩, ⟨congrArg some (congrArg ii (wrap_succ (by omega))), trivial⟩, trivial⟩ ⟨⟨rfl, by omega, by simp [SObj.sc, SV.scs, SV.sc]⟩, ⟨rfl, by omega, trivial⟩, trivial⟩ (fun p hp => by cases hp) (ih (trivial))
  · intro hJ
    refine Run.of_wpK (hc w [] none (fun _ h => by cases h)) 1000 _ ?_
    conv => whnf
    rw [decide_eq_false (show ¬ ((fs.length : Nat) : Int) < (fs.length : Int) by omega)]
    conv => whnf
    rw [show ((fs.length : Int) == 0) = false from beq_eq_false_iff_ne.2 (by omega)]
    conv => whnf
    refine ⟨by omega, ?_⟩
    conv => whnf
    rw [opF_loadWf (f := fun x : Value => [x]) (l := vs) (c := vs[0]) 0 0 rfl rfl (by rw [hvsf]; rfl) rfl (fun _ => rfl) (by decide) (by omega) (by decide) rfl]
    conv => whnf
    obtain ⟨q0, q1, q2, q3, q4, q5⟩ := hv3 0 (by omega) (by omega)
    have hr0 : RowsAt w (.slice q1 fs[0].length q2) 1 fs[0].length (ints fs[0]) := q3 ▸ hv3 0 (by omega) (by omega)
    rw [q3]
    refine Run.readW (T' := [(1, .opq 0), (2, .ptr 1 0), (10, .v (.slice none 0 0)), (42, .opq 2)]) q1 q2 1 fs[0].length (ints fs[0]) hr0 (fun b hb p hp => by cases hp) (AllP.mem ⟨.inl rfl, .inl rfl, .inl rfl, .inr ⟨rfl, rfl⟩, trivial⟩) fun b0 o0 => ?_
    refine Run.of_wpK (hc w [] none (fun _ h => by cases h)) 1000 _ ?_
    conv => whnf
    have hl0 : fs[0].length = c.pix := (hf _ (List.getElem_mem _)).len
    rw [opF_callM (F := FCl 1 3) rfl rfl rfl rfl rfl (FCl_win rfl (by omega) (one_ints _))]
    conv => whnf
    refine Run.nils (T' := [(2, .ptr 1 0), (10, .opq 5), (11, .opq 4), (44, .opq 0), (45, ii (fs.length : Int)), (46, ii 0)]) (M' := [(5, .row 2 0 [] 45), (4, .row 1 fs[0].length ((ints fs[0]).map .v) 3), (1, .cells [ii c.wide, ii c.high, ii c.step] 27), (0, .rwin 1 fs.length vs)]) 1 (fun _ => .row 2 0 [] 45) (fun _ _ => .inl ⟨_, _, rfl⟩) ⟨⟨_, rfl, .inl rfl⟩, ⟨_, rfl, .inr (.inl ⟨rfl, 0, by decide, rfl⟩)⟩, ⟨_, rfl, .inl rfl⟩, ⟨_, rfl, .inl rfl⟩, ⟨_, rfl, .inl rfl⟩, ⟨_, rfl, .inl rfl⟩, trivial⟩ ⟨.inl ⟨0, by decide, rfl⟩, .inr ⟨_, rfl, .inl rfl⟩, .inr ⟨_, rfl, .inl rfl⟩, .inr ⟨_, rfl, .inl rfl⟩, trivial⟩ ?_
    have hg0 : fs.getD 0 [] = fs[0] := by simp [List.getD_eq_getElem?_getD, show 0 < fs.length from h0]
    have hint0 : (ints fs[0]).map SV.v = (wAll c fs 0).1.map fun x => ii x := by
      show _ = (fs.getD 0 []).map fun x => ii x
      rw [hg0]; simp [ints]
    have hlen0 : (wAll c fs 0).1.length = fs[0].length := by show (fs.getD 0 []).length = _; rw [hg0]
    refine Run.trim (T' := [(2, .ptr 1 0), (10, .opq 5), (11, .opq 4), (44, .opq 0), (45, ii (fs.length : Int)), (46, ii ((0 : Nat) : Int))]) (M' := [(5, .row 2 (wAll c fs 0).2.length ((wAll c fs 0).2.flatMap Evt.cells) 45), (4, .row 1 (wAll c fs 0).1.length ((wAll c fs 0).1.map fun x => ii x) 3), (1, .cells [ii c.wide, ii c.high, ii c.step] 27), (0, .rwin 1 fs.length vs)]) 6 ⟨⟨rfl, (show 1 < 6 by decide)⟩, ⟨rfl, (show 5 < 6 by decide)⟩, ⟨rfl, (show 4 < 6 by decide)⟩, ⟨rfl, (show 0 < 6 by decide)⟩, ⟨rfl, trivial⟩, ⟨rfl, trivial⟩, trivial⟩ ⟨⟨rfl, by omega, scs_evts _ _⟩, ⟨by rw [← hint0, hlen0]; rfl, by omega, scs_i _ _⟩, ⟨rfl, by omega, by simp [SObj.sc, SV.scs, SV.sc]⟩, ⟨rfl, by omega, trivial⟩, trivial⟩ (fun p hp => by cases hp) ?_
    refine Run.upToJ (T := fun i => [(2, .ptr 1 0), (10, .opq 5), (11, .opq 4), (44, .opq 0), (45, ii (fs.length : Int)), (46, ii ((i : Nat) : Int))]) (M := fun i => [(5, .row 2 (wAll c fs i).2.length ((wAll c fs i).2.flatMap Evt.cells) 45), (4, .row 1 (wAll c fs i).1.length ((wAll c fs i).1.map fun x => ii x) 3), (1, .cells [ii c.wide, ii c.high, ii c.step] 27), (0, .rwin 1 fs.length vs)]) (fun _ => True) fs.length trivial ?_ ?_
    · intro i hi _ ih
      refine Run.of_wpK (hc w [] none (fun _ h => by cases h)) 1000 _ ?_
      conv => whnf
      rw [decide_eq_true (show ((i : Nat) : Int) < (fs.length : Int) by omega)]
      conv => whnf
      have hi2 : i < vs.length := by omega
      obtain ⟨q0, q1, q2, q3, q4, q5⟩ := hv3 i hi hi2
      have hri : RowsAt w (.slice q1 fs[i].length q2) 1 fs[i].length (ints fs[i]) := q3 ▸ hv3 i hi hi2
      have hwl := hall i (by omega)
      have hfl : fs[i].length = c.pix := (hf _ (List.getElem_mem _)).len
      have hgi : fs.getD i [] = fs[i] := by simp [List.getD_eq_getElem?_getD, hi]
      have hbd : i * c.pix ≤ 262144 := Nat.le_trans (Nat.mul_le_mul (show i ≤ 256 by omega) hpx.2.2) (by decide)
      refine ⟨by omega, ?_⟩
      conv => whnf
      rw [opF_loadWf (f := fun x : Value => [x]) (l := vs) (c := vs[i]) i 0 rfl rfl (by rw [hvsf]; rfl) rfl (fun _ => rfl) (by rw [idx_nat]; rfl) (by omega) (by decide) rfl, q3]
      conv => whnf
      obtain ⟨f, hfe⟩ : ∃ f, fs[i] = f := ⟨_, rfl⟩
      obtain ⟨s, hs⟩ : ∃ s, wAll c fs i = s := ⟨_, rfl⟩
      rw [hfe] at hri hfl hgi
      rw [hs] at hwl
      rw [hfe, hs]
      have hsl : s.1.length = f.length := by rw [hfl]; exact hwl.1 h0
      have hsb : s.2.length ≤ 262144 := Nat.le_trans hwl.2 hbd
      refine Run.readW (T' := [(2, .ptr 1 0), (10, .opq 5), (11, .opq 4), (12, ii ((i : Nat) : Int)), (44, .opq 0), (45, ii (fs.length : Int)), (46, ii ((i : Nat) : Int)), (51, .opq 6), (52, ii (f.length : Int)), (53, ii 0)]) q1 q2 1 f.length (ints f) hri (fun b hb p hp => by cases hp) (AllP.mem ⟨.inl rfl, .inl rfl, .inl rfl, .inl rfl, .inl rfl, .inl rfl, .inl rfl, .inr ⟨rfl, rfl⟩, .inl rfl, .inl rfl, trivial⟩) fun b1 o1 => ?_
      refine Run.trim (T' := [(2, .ptr 1 0), (10, .opq 5), (11, .opq 4), (12, ii ((i : Nat) : Int)), (44, .opq 0), (45, ii (fs.length : Int)), (46, ii ((i : Nat) : Int)), (51, .opq 6), (52, ii (f.length : Int)), (53, ii ((0 : Nat) : Int))]) (M' := [(5, .row 2 (wRow c ((i : Nat) : Int) f s 0).2.length ((wRow c ((i : Nat) : Int) f s 0).2.flatMap Evt.cells) 45), (4, .row 1 (wRow c ((i : Nat) : Int) f s 0).1.length ((wRow c ((i : Nat) : Int) f s 0).1.map fun x => ii x) 3), (1, .cells [ii c.wide, ii c.high, ii c.step] 27), (0, .rwin 1 fs.length vs), (6, .rwin 1 f.length (ints f))]) 7 ⟨⟨rfl, (show 1 < 7 by decide)⟩, ⟨rfl, (show 5 < 7 by decide)⟩, ⟨rfl, (show 4 < 7 by decide)⟩, ⟨rfl, trivial⟩, ⟨rfl, (show 0 < 7 by decide)⟩, ⟨rfl, trivial⟩, ⟨rfl, trivial⟩, ⟨rfl, (show 6 < 7 by decide)⟩, ⟨rfl, trivial⟩, ⟨rfl, trivial⟩, trivial⟩ ⟨⟨rfl, by omega, scs_evts _ _⟩, ⟨rfl, by omega, scs_i _ _⟩, ⟨rfl, by omega, by simp [SObj.sc, SV.scs, SV.sc]⟩, ⟨rfl, by omega, trivial⟩, ⟨rfl, by omega, trivial⟩, trivial⟩ (fun p hp => by cases hp) ?_
      refine Run.upToJ (T := fun j => [(2, .ptr 1 0), (10, .opq 5), (11, .opq 4), (12, ii ((i : Nat) : Int)), (44, .opq 0), (45, ii (fs.length : Int)), (46, ii ((i : Nat) : Int)), (51, .opq 6), (52, ii (f.length : Int)), (53, ii ((j : Nat) : Int))]) (M := fun j => [(5, .row 2 (wRow c ((i : Nat) : Int) f s j).2.length ((wRow c ((i : Nat) : Int) f s j).2.flatMap Evt.cells) 45), (4, .row 1 (wRow c ((i : Nat) : Int) f s j).1.length ((wRow c ((i : Nat) : Int) f s j).1.map fun x => ii x) 3), (1, .cells [ii c.wide, ii c.high, ii c.step] 27), (0, .rwin 1 fs.length vs), (6, .rwin 1 f.length (ints f))]) (fun _ => True) f.length trivial ?_ ?_
      · intro j hj _ ih2
        have hRl := wRow_len c ((i : Nat) : Int) f s j
        have en := wRow_succ c ((i : Nat) : Int) f s j
        obtain ⟨R, hR⟩ : ∃ R, wRow c ((i : Nat) : Int) f s j = R := ⟨_, rfl⟩
        rw [hR] at hRl en
        rw [hR]
        have hkj : j < R.1.length := by omega
        have hgf : f.getD j 0 = f[j] := by simp [List.getD_eq_getElem?_getD, hj]
        have hgk : R.1.getD j 0 = R.1[j] := by simp [List.getD_eq_getElem?_getD, hkj]
        unfold wPix at en
        rw [hgf, hgk] at en
        have hRb : R.2.length ≤ 262144 + 1024 := by omega
        refine Run.of_wpK (hc w [] none (fun _ h => by cases h)) 1000 _ ?_
        conv => whnf
        rw [decide_eq_true (show ((j : Nat) : Int) < (f.length : Int) by omega)]
        conv => whnf
        refine ⟨by omega, ?_⟩
        conv => whnf
        rw [opF_loadWf (f := fun x : Int => [Value.int .i64 x]) (l := f) (c := .int .i64 f[j]) j 0 rfl rfl (by rw [flat_one f]; rfl) rfl (fun _ => rfl) (by rw [idx_nat]; rfl) hj (by decide) rfl]
        conv => whnf
        refine Run.draw (hc w [] none (fun _ h => by cases h)) 10 ?_
        rw [show upto 0 10 = upto 0 5 ++ upto 5 5 from rfl]
        simp only [drawK_app]
        conv => whnf
        refine ⟨by omega, ?_⟩
        conv => whnf
        rw [opF_loadRow1 j rfl rfl rfl rfl (by rw [idx_nat, Nat.mul_one]) hkj]
        conv => whnf
        refine ⟨by kernel_rfl, ?_⟩
        refine Run.of_wpK (hc w [] none (fun _ h => by cases h)) 1000 _ ?_
        conv => whnf
        cases e1 : decide (c.step ≤ IntKind.i64.wrap (f[j] - R.1[j]))
        case true =>
          rw [if_pos (show c.step ≤ W (f[j] - R.1[j]) from of_decide_eq_true e1)] at en
          conv => whnf
          refine ⟨by omega, ?_⟩
          conv => whnf
          refine Run.draw (hc w [] none (fun _ h => by cases h)) 9 ?_
          rw [show upto 0 9 = upto 0 4 ++ upto 4 5 from rfl]
          simp only [drawK_app]
          conv => whnf
          refine ⟨by omega, ?_⟩
          conv => whnf
          rw [opF_loadRow1 j rfl rfl rfl rfl (by rw [idx_nat, Nat.mul_one]) hkj]
          conv => whnf
          refine ⟨by omega, ?_⟩
          conv => whnf
          rw [opF_storeR1 (v := ii (W (R.1[j] + c.step))) j rfl rfl rfl rfl rfl (by rw [idx_nat, Nat.mul_one]) (by rw [List.length_map]; omega) rfl rfl]
          conv => whnf
          refine ⟨by kernel_rfl, ?_⟩
          refine Run.of_wpK (hc w [] none (fun _ h => by cases h)) 1000 _ ?_
          conv => whnf

          refine Run.trimQ (T' := [(2, .ptr 1 0), (10, .opq 5), (11, .opq 4), (12, ii ((i : Nat) : Int)), (44, .opq 0), (45, ii (fs.length : Int)), (46, ii ((i : Nat) : Int)), (51, .opq 6), (52, ii (f.length : Int)), (53, ii ((j + 1 : Nat) : Int))]) (M' := [(5, .row 2 (wRow c ((i : Nat) : Int) f s (j + 1)).2.length ((wRow c ((i : Nat) : Int) f s (j + 1)).2.flatMap Evt.cells) 45), (4, .row 1 (wRow c ((i : Nat) : Int) f s (j + 1)).1.length ((wRow c ((i : Nat) : Int) f s (j + 1)).1.map fun x => ii x) 3), (1, .cells [ii c.wide, ii c.high, ii c.step] 27), (0, .rwin 1 fs.length vs), (6, .rwin 1 f.length (ints f))]) (rq [(5, 18), (18, 5)]) 7 ?_ ?_ ?_ ?_ (ih2 trivial)
          · intro i hi j hj hne he
            have inv : ∀ i, i < 7 → rq [(5, 18), (18, 5)] (rq [(5, 18), (18, 5)] i) = i := by decide
            exact hne (by rw [← inv i hi, he, inv j hj])
          · exact ⟨⟨rfl, (show 1 < 7 by decide)⟩, ⟨rfl, (show 5 < 7 by decide)⟩, ⟨rfl, (show 4 < 7 by decide)⟩, ⟨rfl, trivial⟩, ⟨rfl, (show 0 < 7 by decide)⟩, ⟨rfl, trivial⟩, ⟨rfl, trivial⟩, ⟨rfl, (show 6 < 7 by decide)⟩, ⟨rfl, trivial⟩, ⟨congrArg some (congrArg ii (wrap_succ (by omega))), trivial⟩, trivial⟩
          · exact ⟨⟨by rw [oren_fix (S := fun _ => False) (fun i hi => hi.elim) (o := .row 2 (wRow c ((i : Nat) : Int) f s (j + 1)).2.length ((wRow c ((i : Nat) : Int) f s (j + 1)).2.flatMap Evt.cells) 45) (scs_evts _ _), en]; show _ = some (SObj.row 2 (R.2 ++ [_]).length _ 45); rw [List.length_append, List.flatMap_append]; rfl, by omega, scs_evts _ _⟩, ⟨by rw [oren_fix (S := fun _ => False) (fun i hi => hi.elim) (o := .row 1 (wRow c ((i : Nat) : Int) f s (j + 1)).1.length ((wRow c ((i : Nat) : Int) f s (j + 1)).1.map fun x => ii x) 3) (scs_i _ _), en]; show _ = some (SObj.row 1 (R.1.set j _).length ((R.1.set j _).map fun x => ii x) 3); rw [List.length_set, List.map_set]; rfl, by omega, scs_i _ _⟩, ⟨rfl, by omega, by simp [SObj.sc, SV.scs, SV.sc]⟩, ⟨rfl, by omega, trivial⟩, ⟨rfl, by omega, trivial⟩, trivial⟩
          · intro p hp; cases hp
        case false =>
          rw [if_neg (show ¬ c.step ≤ W (f[j] - R.1[j]) from of_decide_eq_false e1)] at en
          conv => whnf
          refine Run.draw (hc w [] none (fun _ h => by cases h)) 10 ?_
          rw [show upto 0 10 = upto 0 4 ++ upto 4 6 from rfl]
          simp only [drawK_app]
          conv => whnf
          refine ⟨by omega, ?_⟩
          conv => whnf
          rw [opF_loadRow1 j rfl rfl rfl rfl (by rw [idx_nat, Nat.mul_one]) hkj]
          conv => whnf
          refine ⟨by kernel_rfl, ?_⟩
          refine Run.of_wpK (hc w [] none (fun _ h => by cases h)) 1000 _ ?_
          conv => whnf
          cases e2 : decide (c.step ≤ IntKind.i64.wrap (R.1[j] - f[j]))
          case true =>
            rw [if_pos (show c.step ≤ W (R.1[j] - f[j]) from of_decide_eq_true e2)] at en
            conv => whnf
            refine ⟨by omega, ?_⟩
            conv => whnf
            refine Run.draw (hc w [] none (fun _ h => by cases h)) 9 ?_
            rw [show upto 0 9 = upto 0 4 ++ upto 4 5 from rfl]
            simp only [drawK_app]
            conv => whnf
            refine ⟨by omega, ?_⟩
            conv => whnf
            rw [opF_loadRow1 j rfl rfl rfl rfl (by rw [idx_nat, Nat.mul_one]) hkj]
            conv => whnf
            refine ⟨by omega, ?_⟩
            conv => whnf
            rw [opF_storeR1 (v := ii (W (R.1[j] - c.step))) j rfl rfl rfl rfl rfl (by rw [idx_nat, Nat.mul_one]) (by rw [List.length_map]; omega) rfl rfl]
            conv => whnf
            refine ⟨by kernel_rfl, ?_⟩
            refine Run.of_wpK (hc w [] none (fun _ h => by cases h)) 1000 _ ?_
            conv => whnf

            refine Run.trimQ (T' := [(2, .ptr 1 0), (10, .opq 5), (11, .opq 4), (12, ii ((i : Nat) : Int)), (44, .opq 0), (45, ii (fs.length : Int)), (46, ii ((i : Nat) : Int)), (51, .opq 6), (52, ii (f.length : Int)), (53, ii ((j + 1 : Nat) : Int))]) (M' := [(5, .row 2 (wRow c ((i : Nat) : Int) f s (j + 1)).2.length ((wRow c ((i : Nat) : Int) f s (j + 1)).2.flatMap Evt.cells) 45), (4, .row 1 (wRow c ((i : Nat) : Int) f s (j + 1)).1.length ((wRow c ((i : Nat) : Int) f s (j + 1)).1.map fun x => ii x) 3), (1, .cells [ii c.wide, ii c.high, ii c.step] 27), (0, .rwin 1 fs.length vs), (6, .rwin 1 f.length (ints f))]) (rq [(5, 28), (28, 5)]) 7 ?_ ?_ ?_ ?_ (ih2 trivial)
            · intro i hi j hj hne he
              have inv : ∀ i, i < 7 → rq [(5, 28), (28, 5)] (rq [(5, 28), (28, 5)] i) = i := by decide
              exact hne (by rw [← inv i hi, he, inv j hj])
            · exact ⟨⟨rfl, (show 1 < 7 by decide)⟩, ⟨rfl, (show 5 < 7 by decide)⟩, ⟨rfl, (show 4 < 7 by decide)⟩, ⟨rfl, trivial⟩, ⟨rfl, (show 0 < 7 by decide)⟩, ⟨rfl, trivial⟩, ⟨rfl, trivial⟩, ⟨rfl, (show 6 < 7 by decide)⟩, ⟨rfl, trivial⟩, ⟨congrArg some (congrArg ii (wrap_succ (by omega))), trivial⟩, trivial⟩
            · exact ⟨⟨by rw [oren_fix (S := fun _ => False) (fun i hi => hi.elim) (o := .row 2 (wRow c ((i : Nat) : Int) f s (j + 1)).2.length ((wRow c ((i : Nat) : Int) f s (j + 1)).2.flatMap Evt.cells) 45) (scs_evts _ _), en]; show _ = some (SObj.row 2 (R.2 ++ [_]).length _ 45); rw [List.length_append, List.flatMap_append]; rfl, by omega, scs_evts _ _⟩, ⟨by rw [oren_fix (S := fun _ => False) (fun i hi => hi.elim) (o := .row 1 (wRow c ((i : Nat) : Int) f s (j + 1)).1.length ((wRow c ((i : Nat) : Int) f s (j + 1)).1.map fun x => ii x) 3) (scs_i _ _), en]; show _ = some (SObj.row 1 (R.1.set j _).length ((R.1.set j _).map fun x => ii x) 3); rw [List.length_set, List.map_set]; rfl, by omega, scs_i _ _⟩, ⟨rfl, by omega, by simp [SObj.sc, SV.scs, SV.sc]⟩, ⟨rfl, by omega, trivial⟩, ⟨rfl, by omega, trivial⟩, trivial⟩
            · intro p hp; cases hp
          case false =>
            rw [if_neg (show ¬ c.step ≤ W (R.1[j] - f[j]) from of_decide_eq_false e2)] at en
            conv => whnf
            rw [en] at ih2
            exact Run.trim (T' := [(2, .ptr 1 0), (10, .opq 5), (11, .opq 4), (12, ii ((i : Nat) : Int)), (44, .opq 0), (45, ii (fs.length : Int)), (46, ii ((i : Nat) : Int)), (51, .opq 6), (52, ii (f.length : Int)), (53, ii ((j + 1 : Nat) : Int))]) (M' := [(5, .row 2 R.2.length (R.2.flatMap Evt.cells) 45), (4, .row 1 R.1.length (R.1.map fun x => ii x) 3), (1, .cells [ii c.wide, ii c.high, ii c.step] 27), (0, .rwin 1 fs.length vs), (6, .rwin 1 f.length (ints f))]) 7 ⟨⟨rfl, (show 1 < 7 by decide)⟩, ⟨rfl, (show 5 < 7 by decide)⟩, ⟨rfl, (show 4 < 7 by decide)⟩, ⟨rfl, trivial⟩, ⟨rfl, (show 0 < 7 by decide)⟩, ⟨rfl, trivial⟩, ⟨rfl, trivial⟩, ⟨rfl, (show 6 < 7 by decide)⟩, ⟨rfl, trivial⟩, ⟨congrArg some (congrArg ii (wrap_succ (by omega))), trivial⟩, trivial⟩ ⟨⟨rfl, by omega, scs_evts _ _⟩, ⟨rfl, by omega, scs_i _ _⟩, ⟨rfl, by omega, by simp [SObj.sc, SV.scs, SV.sc]⟩, ⟨rfl, by omega, trivial⟩, ⟨rfl, by omega, trivial⟩, trivial⟩ (fun p hp => by cases hp) (ih2 trivial)

      · intro _
        have es : wAll c fs (i + 1) = wRow c ((i : Nat) : Int) f s f.length := by
          show wRow c (i : Int) (fs.getD i []) (wAll c fs i) (fs.getD i []).length = _
          rw [hgi, hs]
        refine Run.of_wpK (hc w [] none (fun _ h => by cases h)) 1000 _ ?_
        conv => whnf
        rw [decide_eq_false (show ¬ ((f.length : Nat) : Int) < (f.length : Int) by omega)]
        conv => whnf
        rw [es] at ih
        exact Run.trim (T' := [(2, .ptr 1 0), (10, .opq 5), (11, .opq 4), (44, .opq 0), (45, ii (fs.length : Int)), (46, ii ((i + 1 : Nat) : Int))]) (M' := [(5, .row 2 (wRow c ((i : Nat) : Int) f s f.length).2.length ((wRow c ((i : Nat) : Int) f s f.length).2.flatMap Evt.cells) 45), (4, .row 1 (wRow c ((i : Nat) : Int) f s f.length).1.length ((wRow c ((i : Nat) : Int) f s f.length).1.map fun x => ii x) 3), (1, .cells [ii c.wide, ii c.high, ii c.step] 27), (0, .rwin 1 fs.length vs)]) 6 ⟨⟨rfl, (show 1 < 6 by decide)⟩, ⟨rfl, (show 5 < 6 by decide)⟩, ⟨rfl, (show 4 < 6 by decide)⟩, ⟨rfl, (show 0 < 6 by decide)⟩, ⟨rfl, trivial⟩, ⟨congrArg some (congrArg ii (wrap_succ (by omega))), trivial⟩, trivial⟩ ⟨⟨rfl, by omega, scs_evts _ _⟩, ⟨rfl, by omega, scs_i _ _⟩, ⟨rfl, by omega, by simp [SObj.sc, SV.scs, SV.sc]⟩, ⟨rfl, by omega, trivial⟩, trivial⟩ (fun p hp => by cases hp) (ih trivial)


    · intro _
      refine Run.of_wpK (hc w [] none (fun _ h => by cases h)) 1000 _ ?_
      conv => whnf
      rw [decide_eq_false (show ¬ ((fs.length : Nat) : Int) < (fs.length : Int) by omega)]
      conv => whnf
      rw [decide_eq_false (show ¬ (65536 : Int) < ((wAll c fs fs.length).2.length : Int) by have := hm; unfold watch at this; omega)]
      conv => whnf
      refine ⟨fun ρ w' hW _ => ⟨(SV.opq 5).conc ρ, rfl, hW.toExt, ?_⟩⟩
      have h8 := hW.ownsNew (i := 5) rfl (by decide)
      rw [evts_v, concs_v] at h8
      exact h8
def F1_v (f : Int → Value) : List SV → Option SV
  | [.v (.int .i64 a)] => some (.v (f a))
  | _ => none
theorem Pure.of1 {g : FuncId} {f : Int → Value} (he : Enters Try.prog g) (h : ∀ a w, Calls Try.prog g #[.int .i64 a] w fun e w' => e = .returned (f a) ∧ Ext w w') : Pure Try.prog g (plainF (F1_v f)) := PureV.lift {
  ent := he
  sc := fun S args v hv _ => by
    unfold F1_v at hv
    split at hv
    · obtain rfl := Option.some.inj hv; trivial
    · cases hv
  run := fun ρ args v w hv => by
    unfold F1_v at hv
    split at hv
    · obtain rfl := Option.some.inj hv; exact h _ w
    · cases hv }
def F2_v (f : Int → Int → Value) : List SV → Option SV
  | [.v (.int .i64 a), .v (.int .i64 b)] => some (.v (f a b))
  | _ => none
theorem Pure.of2 {g : FuncId} {f : Int → Int → Value} (he : Enters Try.prog g) (h : ∀ a b w, Calls Try.prog g #[.int .i64 a, .int .i64 b] w fun e w' => e = .returned (f a b) ∧ Ext w w') : Pure Try.prog g (plainF (F2_v f)) := PureV.lift {
  ent := he
  sc := fun S args v hv _ => by
    unfold F2_v at hv
    split at hv
    · obtain rfl := Option.some.inj hv; trivial
    · cases hv
  run := fun ρ args v w hv => by
    unfold F2_v at hv
    split at hv
    · obtain rfl := Option.some.inj hv; exact h _ _ w
    · cases hv }
def FEE_v (f : Evt → Evt → Value) : List SV → Option SV
  | [.agg [.v (.int .i64 a), .v (.int .i64 b)], .agg [.v (.int .i64 c), .v (.int .i64 d)]] => some (.v (f ⟨a, b⟩ ⟨c, d⟩))
  | _ => none
theorem Pure.ofEE {g : FuncId} {f : Evt → Evt → Value} (he : Enters Try.prog g) (h : ∀ a b w, Calls Try.prog g #[.agg a.vals.toArray, .agg b.vals.toArray] w fun e w' => e = .returned (f a b) ∧ Ext w w') : Pure Try.prog g (plainF (FEE_v f)) := PureV.lift {
  ent := he
  sc := fun S args v hv _ => by
    unfold FEE_v at hv
    split at hv
    · obtain rfl := Option.some.inj hv; trivial
    · cases hv
  run := fun ρ args v w hv => by
    unfold FEE_v at hv
    split at hv
    · obtain rfl := Option.some.inj hv; exact h _ _ w
    · cases hv }
theorem isNaN_pure : Pure Try.prog 66 (plainF (F1_v fun _ => .bool false)) := Pure.of1 (ent _ _ Try.func66 (by kernel_rfl) rfl) fun a w => by
  refine Run.start0 (tab := tab) (pf := []) (cuts := []) mixed tab_ok trivial Try.func66 rfl [ii a] 100 (by simp [SV.scs, SV.sc]) rfl ?_
  conv => whnf
  refine ⟨fun ρ w' hW _ => ⟨?_, hW.toExt⟩⟩
  show Ending.returned (.bool (a != a)) = _
  simp
def cmpI (x y : Int) : Int := if x < y then -1 else if y < x then 1 else 0
theorem compare_pure : Pure Try.prog 58 (plainF (F2_v fun x y => .int .i64 (cmpI x y))) := Pure.of2 (ent _ _ Try.func58 (by kernel_rfl) rfl) fun x y w => by
  refine Run.start0 (tab := tab) (pf := [(66, plainF (F1_v fun _ => .bool false))]) (cuts := []) mixed tab_ok ⟨isNaN_pure, trivial⟩ Try.func58 rfl [ii x, ii y] 100 (by simp [SV.scs, SV.sc]) rfl ?_
  conv => whnf
  cases h1 : decide (x < y)
  case true =>
    conv => whnf
    exact ⟨fun ρ w' hW _ => ⟨by unfold cmpI; rw [if_pos (of_decide_eq_true h1)]; rfl, hW.toExt⟩⟩
  have h1 := of_decide_eq_false h1
  conv => whnf
  cases h2 : decide (y < x)
  case true =>
    conv => whnf
    exact ⟨fun ρ w' hW _ => ⟨by unfold cmpI; rw [if_neg h1, if_pos (of_decide_eq_true h2)]; rfl, hW.toExt⟩⟩
  conv => whnf
  exact ⟨fun ρ w' hW _ => ⟨by unfold cmpI; rw [if_neg h1, if_neg (of_decide_eq_false h2)]; rfl, hW.toExt⟩⟩
def orI (a b : Int) : Int := if a ≠ 0 then a else b
theorem or_run (v : Value) (a b : Int) (w : World) (hr : RowsAt w v 1 2 (ints [a, b])) : Calls Try.prog 57 #[v] w fun e w' => e = .returned (.int .i64 (orI a b)) ∧ Ext w w' := by
  have hc : ∀ w L' rd, (∀ p, rd = some p → p ∈ L') → Cx.ok ⟨Try.prog, tab, [], 57, Try.f57, [], w, L', rd⟩ := fun w L' rd h => ⟨tab_ok, trivial, Try.func57, mixed, h⟩
  have hrows : AllP (fun x : Value × Nat × Nat × List Value => RowsAt w x.1 x.2.1 x.2.2.1 x.2.2.2) [(v, 1, 2, ints [a, b])] := ⟨hr, trivial⟩
  refine Run.startW (tab := tab) (pf := []) (cuts := []) Try.func57 rfl _ hrows [.opq 0] [v] [(0, .rwin 1 2 (ints [a, b]))] 1 rfl rfl (by show [(SV.opq 0).conc _] = _; rw [conc_rows hrows (k := 0) rfl]) (by simp [SV.scs, SV.sc]) rfl (Run.of_wpK (hc w [] none (fun _ h => by cases h)) 100 _ ?_)
  conv => whnf
  refine Run.trim (T' := [(3, ii 0), (6, .opq 0), (7, ii 2), (8, ii (((0 : Nat) : Nat) : Int))]) (M' := [(0, .rwin 1 2 (ints [a, b]))]) 1 ⟨⟨rfl, trivial⟩, ⟨rfl, (show 0 < 1 by decide)⟩, ⟨rfl, trivial⟩, ⟨rfl, trivial⟩, trivial⟩ ⟨⟨rfl, by omega, trivial⟩, trivial⟩ (fun p hp => by cases hp) ?_
  refine Run.upToJ (T := fun i => [(3, ii 0), (6, .opq 0), (7, ii 2), (8, ii ((i : Nat) : Int))]) (M := fun i => [(0, .rwin 1 2 (ints [a, b]))]) (fun i => (1 ≤ i → a = 0) ∧ (2 ≤ i → b = 0)) (2) (⟨fun h => by omega, fun h => by omega⟩) ?_ ?_
  · intro i hi hJ ih
    refine Run.of_wpK (hc w [] none (fun _ h => by cases h)) 1000 _ ?_
    conv => whnf
    rw [decide_eq_true (show ((i : Nat) : Int) < (2 : Int) by omega)]
    conv => whnf
    have hi2 : i = 0 ∨ i = 1 := by omega
    refine ⟨by omega, ?_⟩
    conv => whnf
    rw [opF_loadWf (f := fun x : Int => [Value.int .i64 x]) (l := [a, b]) (c := .int .i64 ([a, b][i]'hi)) i 0 rfl rfl rfl rfl (fun _ => rfl) (by rw [idx_nat]; rfl) hi (by decide) rfl]
    conv => whnf
    cases e : ([a, b][i]'hi) != 0
    case true =>
      conv => whnf
      refine ⟨fun ρ w' hW _ => ⟨?_, hW.toExt⟩⟩
      have e' : ([a, b][i]'hi) ≠ 0 := by simpa using e
      have : orI a b = ([a, b][i]'hi) := by
        unfold orI
        rcases hi2 with rfl | rfl
        · rw [if_pos (show a ≠ 0 from e')]; rfl
        · rw [if_neg (by rw [hJ.1 (by decide)]; decide)]; rfl
      rw [this]; rfl
    case false =>
      conv => whnf
      exact Run.trim (T' := [(3, ii 0), (6, .opq 0), (7, ii 2), (8, ii ((i + 1 : Nat) : Int))]) (M' := [(0, .rwin 1 2 (ints [a, b]))]) 1 ⟨⟨rfl, trivial⟩, ⟨rfl, (show 0 < 1 by decide)⟩, ⟨rfl, trivial⟩, ⟨congrArg some (congrArg ii (wrap_succ (by omega))), trivial⟩, trivial⟩ ⟨⟨rfl, by omega, trivial⟩, trivial⟩ (fun p hp => by cases hp) (ih (by
        have e' : ([a, b][i]'hi) = 0 := by simpa using e
        rcases hi2 with rfl | rfl
        · exact ⟨fun _ => e', fun h => by omega⟩
        · exact ⟨fun _ => hJ.1 (by decide), fun _ => e'⟩))
  · intro hJ
    refine Run.of_wpK (hc w [] none (fun _ h => by cases h)) 1000 _ ?_
    conv => whnf
    refine ⟨fun ρ w' hW _ => ⟨?_, hW.toExt⟩⟩
    have : orI a b = 0 := by unfold orI; rw [hJ.1 (by decide), hJ.2 (by decide)]; rfl
    rw [this]; rfl
/-- How two events stand to each other. -/
def cmpE (a b : Evt) : Int := orI (cmpI a.tick b.tick) (cmpI a.id b.id)
theorem compareE_pure : Pure Try.prog 40 (plainF (FEE_v fun a b => .int .i64 (cmpE a b))) := Pure.ofEE (ent _ _ Try.func40 (by kernel_rfl) rfl) fun a b w => by
  obtain ⟨at', ai⟩ := a
  obtain ⟨bt, bi⟩ := b
  unfold cmpE
  obtain ⟨cm, hcm⟩ : ∃ cm, cmpI = cm := ⟨_, rfl⟩
  have hpf : PF.oks Try.prog [(58, plainF (F2_v fun x y => .int .i64 (cm x y)))] := by rw [← hcm]; exact ⟨compare_pure, trivial⟩
  rw [hcm]
  have hc : ∀ w L' rd, (∀ p, rd = some p → p ∈ L') → Cx.ok ⟨Try.prog, tab, [(58, plainF (F2_v fun x y => .int .i64 (cm x y)))], 40, Try.f40, [], w, L', rd⟩ := fun w L' rd h => ⟨tab_ok, hpf, Try.func40, mixed, h⟩
  refine Run.start0 (tab := tab) (pf := [(58, plainF (F2_v fun x y => .int .i64 (cm x y)))]) (cuts := []) mixed tab_ok hpf Try.func40 rfl [.agg [ii at', ii ai], .agg [ii bt, ii bi]] 100 (by simp [SV.scs, SV.sc]) rfl ?_
  conv => whnf
  refine Run.draw (hc w [] none (fun _ h => by cases h)) 11 ?_
  conv => whnf
  refine ⟨by kernel_rfl, ?_⟩
  refine Run.of_wpK (hc w [] none (fun _ h => by cases h)) 1000 _ ?_
  conv => whnf
  refine Run.callE (g := 57) (vs := [.slc 12 0 2 2]) (caps := []) (ii (orI (cm at' bt) (cm ai bi))) (fun ρ w1 hW => or_run _ (cm at' bt) (cm ai bi) w1 (hW.rowsAtS (i := 12) rfl rfl (by decide))) (ent _ _ Try.func57 (by kernel_rfl) rfl) rfl rfl rfl rfl rfl rfl rfl trivial ?_
  refine Run.of_wpK (hc w [] none (fun _ h => by cases h)) 1000 _ ?_
  conv => whnf
  exact ⟨fun ρ w' hW _ => ⟨rfl, hW.toExt⟩⟩
/-- An event may stand behind others. -/
structure EvtOK (x : Evt) : Prop where
  t0 : 0 ≤ x.tick
  t1 : x.tick ≤ 1073741824
  i0 : 0 ≤ x.id
  i1 : x.id ≤ 65535
def ltE (a b : Evt) : Prop := a.tick < b.tick ∨ a.tick = b.tick ∧ a.id < b.id
theorem cmpE_lt {a b : Evt} (h : ltE a b) : cmpE a b < 0 := by
  unfold cmpE orI cmpI
  rcases h with h | ⟨h1, h2⟩
  · rw [if_pos h, if_pos (by decide)]; decide
  · rw [h1, if_neg (Int.lt_irrefl _), if_neg (Int.lt_irrefl _), if_neg (by decide), if_pos h2]; decide
theorem follows_run (v : Value) (l : List Evt) (x : Evt) (hx : EvtOK x) (hl : l.length ≤ 1000000) (hlt : ∀ h : 0 < l.length, ltE (l[l.length - 1]'(by omega)) x) (w : World) (hr : RowsAt w v 2 l.length (l.flatMap Evt.vals)) :
    Calls Try.prog 22 #[v, .agg x.vals.toArray] w fun e w' => e = .returned (.int .i64 0) ∧ Ext w w' := by
  have e1 : wi x.tick 0 1073741824 = true := wi_iff.2 ⟨hx.t0, hx.t1⟩
  have e2 : wi x.id 0 65535 = true := wi_iff.2 ⟨hx.i0, hx.i1⟩
  have hlt2 : ∀ h : 0 < l.length, cmpE (l[l.length - 1]'(by omega)) x < 0 := fun h => cmpE_lt (hlt h)
  obtain ⟨xt, xi⟩ := x
  obtain ⟨wf, hwf⟩ : ∃ f, wi = f := ⟨_, rfl⟩
  obtain ⟨cf, hcf⟩ : ∃ f, cmpE = f := ⟨_, rfl⟩
  have hpf : PF.oks Try.prog [(17, F3 fun n lo hi => .bool (wf n lo hi)), (40, plainF (FEE_v fun a b => .int .i64 (cf a b)))] := by rw [← hwf, ← hcf]; exact ⟨sin_pure, compareE_pure, trivial⟩
  rw [hwf] at e1 e2
  rw [hcf] at hlt2
  simp only at e1 e2
  have hc : ∀ w L' rd, (∀ p, rd = some p → p ∈ L') → Cx.ok ⟨Try.prog, tab, [(17, F3 fun n lo hi => .bool (wf n lo hi)), (40, plainF (FEE_v fun a b => .int .i64 (cf a b)))], 22, Try.f22, [], w, L', rd⟩ := fun w L' rd h => ⟨tab_ok, hpf, Try.func22, mixed, h⟩
  have hrows : AllP (fun x : Value × Nat × Nat × List Value => RowsAt w x.1 x.2.1 x.2.2.1 x.2.2.2) [(v, 2, l.length, l.flatMap Evt.vals)] := ⟨hr, trivial⟩
  refine Run.startW (tab := tab) (pf := [(17, F3 fun n lo hi => .bool (wf n lo hi)), (40, plainF (FEE_v fun a b => .int .i64 (cf a b)))]) (cuts := []) Try.func22 rfl _ hrows [.opq 0, .agg [ii xt, ii xi]] [v, .agg (Evt.vals ⟨xt, xi⟩).toArray] [(0, .rwin 2 l.length (l.flatMap Evt.vals))] 1 rfl rfl (by show [(SV.opq 0).conc _, _] = _; rw [conc_rows hrows (k := 0) rfl]; rfl) (by simp [SV.scs, SV.sc]) rfl (Run.of_wpK (hc w [] none (fun _ h => by cases h)) 100 _ ?_)
  conv => whnf
  rw [e1]
  conv => whnf
  rw [e2]
  conv => whnf
  by_cases h0 : 0 < l.length
  · have hidx : IntKind.i64.wrap ((l.length : Int) - 1) = ((l.length - 1 : Nat) : Int) := by
      rw [show ((l.length - 1 : Nat) : Int) = (l.length : Int) - 1 by omega]
      exact W_id (by omega) (by omega)
    refine Run.draw (hc w [] none (fun _ h => by cases h)) 15 ?_
    rw [show upto 0 15 = upto 0 3 ++ (upto 3 7 ++ upto 10 5) from rfl]
    simp only [drawK_app]
    conv => whnf
    rw [decide_eq_true (show (0 : Int) < (l.length : Int) by omega)]
    conv => whnf
    rw [hidx]
    refine ⟨by omega, ?_⟩
    conv => whnf
    rw [opF_loadW (f := Evt.vals) (l := l) (l.length - 1) rfl rfl rfl rfl rfl Evt.vlen (by rw [idx_nat]) (by omega)]
    conv => whnf
    refine ⟨by kernel_rfl, ?_⟩
    refine Run.of_wpK (hc w [] none (fun _ h => by cases h)) 1000 _ ?_
    conv => whnf
    rw [decide_eq_false (show ¬ (0 : Int) ≤ cf ⟨l[l.length - 1].tick, l[l.length - 1].id⟩ ⟨xt, xi⟩ by have := hlt2 h0; exact Int.not_le.2 this)]
    conv => whnf
    exact ⟨fun ρ w' hW _ => ⟨rfl, hW.toExt⟩⟩
  · refine Run.draw (hc w [] none (fun _ h => by cases h)) 15 ?_
    rw [show upto 0 15 = upto 0 3 ++ (upto 3 7 ++ upto 10 5) from rfl]
    simp only [drawK_app]
    conv => whnf
    rw [decide_eq_false (show ¬ (0 : Int) < (l.length : Int) by omega)]
    conv => whnf
    refine ⟨by kernel_rfl, ?_⟩
    refine Run.of_wpK (hc w [] none (fun _ h => by cases h)) 1000 _ ?_
    conv => whnf
    exact ⟨fun ρ w' hW _ => ⟨rfl, hW.toExt⟩⟩
/-- A recorder that was made. -/
theorem is_spec : BSpec Try.prog 21 [.ptr 0 0] [(0, .cells [.v (.bool true), .opq 1] 67)] 2 [0] (.v (.bool true)) [(0, .cells [.v (.bool true), .opq 1] 67)] 2 := by
  have hc : ∀ w L' rd, (∀ p, rd = some p → p ∈ L') → Cx.ok ⟨Try.prog, tab, [], 21, Try.f21, [], w, L', rd⟩ := fun w L' rd h => ⟨tab_ok, trivial, Try.func21, mixed, h⟩
  refine BSpec.start (tab := tab) (pf := []) (cuts := []) Try.func21 rfl ⟨(show 0 < 2 by decide), trivial⟩ rfl fun w L0 plp hL hLB hcov => Run.of_wpK (hc w L0 none (fun _ h => by cases h)) 100 _ ?_
  generalize hRR : SpecR _ _ _ _ _ _ = RR
  conv => whnf
  rw [← hRR]
  exact SpecR.intro 3 (by decide) hLB (by decide) hcov rfl rfl trivial ⟨⟨rfl, by omega, by simp [SObj.sc, SV.scs, SV.sc]⟩, trivial⟩
/-- A new recorder. -/
theorem newRec_spec : BSpec Try.prog 9 [] [] 0 [] (.ptr 0 0) [(0, .cells [.v (.bool true), .v (.slice none 0 0)] 67)] 1 := by
  have hc : ∀ w L' rd, (∀ p, rd = some p → p ∈ L') → Cx.ok ⟨Try.prog, tab, [], 9, Try.f9, [], w, L', rd⟩ := fun w L' rd h => ⟨tab_ok, trivial, Try.func9, mixed, h⟩
  refine BSpec.start (tab := tab) (pf := []) (cuts := []) Try.func9 rfl trivial rfl fun w L0 plp hL hLB hcov => Run.of_wpK (hc w L0 none (fun _ h => by cases h)) 100 _ ?_
  generalize hRR : SpecR _ _ _ _ _ _ = RR
  conv => whnf
  rw [← hRR]
  exact SpecR.intro 1 (by decide) hLB (by decide) hcov rfl rfl (show 0 < 1 by decide) ⟨⟨rfl, by omega, by simp [SObj.sc, SV.scs, SV.sc]⟩, trivial⟩
/-- An event is recorded. -/
theorem add_spec (l : List Evt) (x : Evt) (hx : EvtOK x) (hl : l.length < 65536) (hlt : ∀ h : 0 < l.length, ltE (l[l.length - 1]'(by omega)) x) : BSpec Try.prog 10 [.ptr 0 0, .agg [ii x.tick, ii x.id]] [(0, .cells [.v (.bool true), .opq 1] 67), (1, .row 2 l.length (l.flatMap Evt.cells) 45)] 2 [0, 1] (ii 0) [(0, .cells [.v (.bool true), .opq 2] 67), (2, .row 2 (l ++ [x]).length ((l ++ [x]).flatMap Evt.cells) 45)] 3 := by
  have hc : ∀ w L' rd, (∀ p, rd = some p → p ∈ L') → Cx.ok ⟨Try.prog, tab, [(2000, fun _ _ => none)], 10, Try.f10, [], w, L', rd⟩ := fun w L' rd h => ⟨tab_ok, ⟨trivial, trivial⟩, Try.func10, mixed, h⟩
  refine BSpec.start (tab := tab) (pf := [(2000, fun _ _ => none)]) (cuts := []) Try.func10 rfl ⟨(show 0 < 2 by decide), ⟨trivial, trivial, trivial⟩, trivial⟩ rfl fun w L0 plp hL hLB hcov => Run.of_wpK (hc w L0 none (fun _ h => by cases h)) 100 _ ?_
  generalize hRR : SpecR _ _ _ _ _ _ = RR
  conv => whnf
  refine Run.callP (vs := [.ptr 0 0]) (caps := []) is_spec (ent _ _ Try.func21 (by kernel_rfl) rfl) rfl rfl rfl rfl rfl rfl rfl (by decide) (by decide)
    ⟨⟨by omega, by simp [SObj.sc, SV.scs, SV.sc], ⟨_, rfl, Conv.refl _⟩, .inr (by simp), fun h => by cases h⟩, trivial⟩ (fun i hi => by
      have hq2 : i = 0 := by simpa using hi
      subst hq2; exact ⟨by omega, _, rfl⟩) (.v (.bool true)) [(2, .pin plp), (3, .cells [ii x.tick, ii x.id] 45), (0, .cells [.v (.bool true), .opq 1] 67), (1, .row 2 l.length (l.flatMap Evt.cells) 45)] 4 rfl rfl
    ⟨.inl ⟨rfl, by simp⟩, .inl ⟨rfl, by simp⟩, .inr ⟨0, _, rfl, rfl, rfl, rfl⟩, .inl ⟨rfl, by simp⟩, trivial⟩ ?_
  refine Run.of_wpK (hc w L0 none (fun _ h => by cases h)) 1000 _ ?_
  conv => whnf
  rw [show ((l.length : Int) == 65536) = false from beq_eq_false_iff_ne.2 (by omega)]
  conv => whnf
  refine Run.draw (hc w L0 none (fun _ h => by cases h)) 5 ?_
  conv => whnf
  refine ⟨by kernel_rfl, ?_⟩
  refine Run.of_wpK (hc w L0 none (fun _ h => by cases h)) 1000 _ ?_
  conv => whnf
  refine Run.callE (g := 22) (vs := [.opq 1, .agg [ii x.tick, ii x.id]]) (caps := []) (ii 0) (fun ρ w1 hW => by
    have h8 := hW.rowsAtR (i := 1) rfl (by decide)
    rw [evts_v, concs_v] at h8
    exact follows_run _ l x hx (by omega) hlt w1 h8) (ent _ _ Try.func22 (by kernel_rfl) rfl) rfl rfl rfl rfl rfl rfl rfl trivial ?_
  refine Run.of_wpK (hc w L0 none (fun _ h => by cases h)) 1000 _ ?_
  conv => whnf
  refine Run.draw (hc w L0 none (fun _ h => by cases h)) 8 ?_
  conv => whnf
  refine ⟨by omega, ?_⟩
  conv => whnf
  refine ⟨by kernel_rfl, ?_⟩
  refine Run.of_wpK (hc w L0 none (fun _ h => by cases h)) 1000 _ ?_
  conv => whnf
  rw [← hRR]
  exact SpecR.intro 18 (by decide) (fun p hp => by have := hLB p hp; omega) (by decide) hcov rfl rfl trivial ⟨⟨rfl, by omega, by simp [SObj.sc, SV.scs, SV.sc]⟩, ⟨by rw [oren_fix (S := fun _ => False) (fun i hi => hi.elim) (o := .row 2 (l ++ [x]).length ((l ++ [x]).flatMap Evt.cells) 45) (scs_evts _ _), List.length_append, List.flatMap_append]; rfl, by omega, scs_evts _ _⟩, trivial⟩
/-- How many events were recorded. -/
theorem count_spec (l : List Evt) : BSpec Try.prog 14 [.ptr 0 0] [(0, .cells [.v (.bool true), .opq 1] 67), (1, .row 2 l.length (l.flatMap Evt.cells) 45)] 2 [0, 1] (ii (l.length : Int)) [(0, .cells [.v (.bool true), .opq 1] 67), (1, .row 2 l.length (l.flatMap Evt.cells) 45)] 2 := by
  have hc : ∀ w L' rd, (∀ p, rd = some p → p ∈ L') → Cx.ok ⟨Try.prog, tab, [], 14, Try.f14, [], w, L', rd⟩ := fun w L' rd h => ⟨tab_ok, trivial, Try.func14, mixed, h⟩
  refine BSpec.start (tab := tab) (pf := []) (cuts := []) Try.func14 rfl ⟨(show 0 < 2 by decide), trivial⟩ rfl fun w L0 plp hL hLB hcov => Run.of_wpK (hc w L0 none (fun _ h => by cases h)) 100 _ ?_
  generalize hRR : SpecR _ _ _ _ _ _ = RR
  conv => whnf
  refine Run.callP (vs := [.ptr 0 0]) (caps := []) is_spec (ent _ _ Try.func21 (by kernel_rfl) rfl) rfl rfl rfl rfl rfl rfl rfl (by decide) (by decide)
    ⟨⟨by omega, by simp [SObj.sc, SV.scs, SV.sc], ⟨_, rfl, Conv.refl _⟩, .inr (by simp), fun h => by cases h⟩, trivial⟩ (fun i hi => by
      have hq2 : i = 0 := by simpa using hi
      subst hq2; exact ⟨by omega, _, rfl⟩) (.v (.bool true)) [(2, .pin plp), (0, .cells [.v (.bool true), .opq 1] 67), (1, .row 2 l.length (l.flatMap Evt.cells) 45)] 3 rfl rfl
    ⟨.inl ⟨rfl, by simp⟩, .inr ⟨0, _, rfl, rfl, rfl, rfl⟩, .inl ⟨rfl, by simp⟩, trivial⟩ ?_
  refine Run.of_wpK (hc w L0 none (fun _ h => by cases h)) 1000 _ ?_
  conv => whnf
  rw [← hRR]
  exact SpecR.intro 3 (by decide) hLB (by decide) hcov rfl rfl trivial ⟨⟨rfl, by omega, by simp [SObj.sc, SV.scs, SV.sc]⟩, ⟨congrArg some (oren_fix (S := fun _ => False) (fun i hi => hi.elim) (o := .row 2 l.length (l.flatMap Evt.cells) 45) (scs_evts _ _)).symm, by omega, scs_evts _ _⟩, trivial⟩
abbrev u8v (x : Int) : Value := .int .u8 x
abbrev u8s (x : Int) : SV := .v (.int .u8 x)
def shrI (x y : Int) : Int := x.fdiv (2 ^ (min y.toNat IntKind.i64.bits))
def shlI (x y : Int) : Int := W (x * 2 ^ (min y.toNat IntKind.i64.bits))
def bitW (v j : Int) : Int := bitI .and .i64 (shrI v j) 1
def orb (last b r : Int) : Int := bitI .or .u8 last (IntKind.u8.wrap (IntKind.u8.wrap b * 2 ^ (min r.toNat IntKind.u8.bits)))
def wPre (s : List Int × Int) : List Int × Int := if s.2 = 0 then (s.1 ++ [0], 8) else s
def wPut (v j : Int) (p : List Int × Int) : List Int × Int := (p.1.set (p.1.length - 1) (orb (p.1.getD (p.1.length - 1) 0) (bitW v j) (W (p.2 - 1))), W (p.2 - 1))
def wBit (v j : Int) (s : List Int × Int) : List Int × Int := wPut v j (wPre s)
/-- Some of the bits of a number, the highest one first. -/
def wBits (v n : Int) : Nat → List Int × Int → List Int × Int
  | 0, s => s
  | i + 1, s => wBit v (n - 1 - (i : Int)) (wBits v n i s)
structure WOK (s : List Int × Int) (m : Nat) : Prop where
  pos : 0 < s.1.length
  le : s.1.length ≤ m
  r0 : 0 ≤ s.2
  r1 : s.2 ≤ 8
theorem wPre_ok {s : List Int × Int} {m : Nat} (h : WOK s m) : WOK (wPre s) (m + 1) ∧ 1 ≤ (wPre s).2 := by
  have h1 := h.pos; have h2 := h.le; have h3 := h.r0; have h4 := h.r1
  unfold wPre
  split
  · exact ⟨⟨by simp, by simp; omega, (show (0 : Int) ≤ 8 by decide), (show (8 : Int) ≤ 8 by decide)⟩, (show (1 : Int) ≤ 8 by decide)⟩
  · exact ⟨⟨h1, by omega, h3, h4⟩, by omega⟩
theorem wPut_ok {v j : Int} {p : List Int × Int} {m : Nat} (h : WOK p m) (h1 : 1 ≤ p.2) : WOK (wPut v j p) m := by
  have h2 := h.pos; have h3 := h.le; have h4 := h.r1
  have hw : W (p.2 - 1) = p.2 - 1 := W_id (by omega) (by omega)
  exact ⟨by simp [wPut]; omega, by simp [wPut]; omega, by show 0 ≤ W (p.2 - 1); omega, by show W (p.2 - 1) ≤ 8; omega⟩
theorem wBits_ok {v n : Int} {s : List Int × Int} {m : Nat} (h : WOK s m) : ∀ i, WOK (wBits v n i s) (m + i)
  | 0 => h
  | i + 1 => by
    obtain ⟨h1, h2⟩ := wPre_ok (wBits_ok h i (v := v) (n := n))
    exact wPut_ok h1 h2
def lowB (m : Int × Int) (k : Nat) : Bool := decide (shlI m.2 k < m.1)
def lowF (f : Nat → Bool) : Nat → Nat → Nat
  | 0, k => k
  | q + 1, k => if f k = true then lowF f q (k + 1) else k
def lowN (m : Int × Int) : Nat := lowF (lowB m) 24 0
theorem lowF_le (f : Nat → Bool) : ∀ q k, lowF f q k ≤ k + q
  | 0, k => Nat.le_refl _
  | q + 1, k => by
    unfold lowF
    split
    · have := lowF_le f q (k + 1); omega
    · omega
theorem lowF_go {f : Nat → Bool} {N : Nat} : ∀ i, i ≤ N → (∀ j, j < i → f j = true) → lowF f N 0 = lowF f (N - i) i
  | 0, _, _ => rfl
  | i + 1, hi, h => by
    rw [lowF_go i (by omega) fun j hj => h j (by omega), show N - i = (N - (i + 1)) + 1 by omega]
    show (if f i = true then lowF f (N - (i + 1)) (i + 1) else i) = _
    rw [if_pos (h i (by omega))]
theorem lowN_le (m : Int × Int) : lowN m ≤ 24 := Nat.le_trans (lowF_le (lowB m) 24 0) (by decide)
theorem lowN_at {m : Int × Int} {i : Nat} (hi : i < 24) (h : ∀ j, j < i → lowB m j = true) (hf : lowB m i = false) : lowN m = i := by
  unfold lowN
  rw [lowF_go i (by omega) h, show 24 - i = (24 - (i + 1)) + 1 by omega]
  show (if lowB m i = true then _ else i) = _
  rw [if_neg (by rw [hf]; decide)]
theorem lowN_end {m : Int × Int} (h : ∀ j, j < 24 → lowB m j = true) : lowN m = 24 := by
  unfold lowN
  rw [lowF_go 24 (by omega) h]; rfl
def mLearn (m : Int × Int) (v : Int) : Int × Int := if W (m.2 + 1) = 64 then (W ((W (m.1 + v)).tdiv 2), W ((W (m.2 + 1)).tdiv 2)) else (W (m.1 + v), W (m.2 + 1))
/-- What is written for a number. -/
def mWrite (m : Int × Int) (v : Int) (s : List Int × Int) : List Int × Int :=
  let k := lowN m; let q := shrI v k
  if q < 24 then wBits v k k (wBits (W (shlI 1 (W (q + 1)) - 2)) (W (q + 1)) (W (q + 1)).toNat s) else wBits v 31 31 (wBits 16777215 24 24 s)
theorem mWrite_ok {m : Int × Int} {v : Int} {s : List Int × Int} {q : Nat} (h : WOK s q) (hv : 0 ≤ v) : WOK (mWrite m v s) (q + 64) := by
  have hk := lowN_le m
  have up : ∀ {s : List Int × Int} {a b : Nat}, a ≤ b → WOK s a → WOK s b := fun hab h => ⟨h.pos, Nat.le_trans h.le hab, h.r0, h.r1⟩
  have hq0 : 0 ≤ shrI v (lowN m : Int) := Int.fdiv_nonneg hv (Int.le_of_lt (Int.pow_pos (by decide)))
  unfold mWrite
  simp only
  split
  · rename_i h1
    have hw : W (shrI v (lowN m : Int) + 1) = shrI v (lowN m : Int) + 1 := W_id (by omega) (by omega)
    exact up (by rw [hw]; omega) (wBits_ok (wBits_ok h _) _)
  · exact up (by omega) (wBits_ok (wBits_ok h _) _)
def hdr (n : Nat) : List Int := [71, 83, IntKind.u8.wrap (shrI (n : Int) 16), IntKind.u8.wrap (shrI (n : Int) 8), IntKind.u8.wrap (n : Int)]
def pBef (l : List Evt) : Nat → Evt
  | 0 => ⟨-1, 0⟩
  | i + 1 => l.getD i evt0
def pGap (l : List Evt) (i : Nat) : Int := if 0 < i then W ((l.getD i evt0).tick - (pBef l i).tick) else (l.getD i evt0).tick
def pPlc (l : List Evt) (i : Nat) : Int := if (l.getD i evt0).tick = (pBef l i).tick then W ((l.getD i evt0).id - W ((pBef l i).id + 1)) else (l.getD i evt0).id
/-- The writer, and the two models, behind some events. -/
def pS (l : List Evt) : Nat → (List Int × Int) × (Int × Int) × (Int × Int)
  | 0 => ((hdr l.length, 0), (4, 1), (4, 1))
  | i + 1 => (mWrite (pS l i).2.2 (pPlc l i) (mWrite (pS l i).2.1 (pGap l i) (pS l i).1), mLearn (pS l i).2.1 (pGap l i), mLearn (pS l i).2.2 (pPlc l i))
/-- What is asked of events that are packed. -/
structure PackOK (l : List Evt) : Prop where
  len : l.length ≤ 20000
  gap : ∀ i, i < l.length → 0 ≤ pGap l i
  plc : ∀ i, i < l.length → 0 ≤ pPlc l i
theorem pS_ok {l : List Evt} (h : PackOK l) : ∀ i, i ≤ l.length → WOK (pS l i).1 (5 + 128 * i)
  | 0, _ => ⟨by simp [pS, hdr], by simp [pS, hdr], Int.le_refl 0, (show (0 : Int) ≤ 8 by decide)⟩
  | i + 1, hi => by
    have h1 := mWrite_ok (m := (pS l i).2.2) (mWrite_ok (m := (pS l i).2.1) (pS_ok h i (by omega)) (h.gap i (by omega))) (h.plc i (by omega))
    exact ⟨h1.pos, Nat.le_trans h1.le (by omega), h1.r0, h1.r1⟩
/-- The sums of bytes. -/
def sS (l : List Int) : Nat → Int × Int
  | 0 => (0, 0)
  | i + 1 => ((W ((sS l i).1 + W (l.getD i 0))).tmod 255, (W ((sS l i).2 + (W ((sS l i).1 + W (l.getD i 0))).tmod 255)).tmod 255)
def sumB (l : List Int) : Int × Int := (IntKind.u8.wrap (sS l l.length).1, IntKind.u8.wrap (sS l l.length).2)
def packB (l : List Evt) : List Int := (pS l l.length).1.1 ++ [(sumB (pS l l.length).1.1).1, (sumB (pS l l.length).1.1).2]
def rBit (b : List Int) (a : Nat) : Int := W (bitI .and .u8 ((b.getD (a / 8) 0).fdiv (2 ^ (min (W (7 - ((a % 8 : Nat) : Int))).toNat IntKind.u8.bits))) 1)
def rTk (b : List Int) (a : Nat) : Nat → Int
  | 0 => 0
  | i + 1 => bitI .or .i64 (W (rTk b a i * 2 ^ (min (1 : Int).toNat IntKind.i64.bits))) (rBit b (a + i))
/-- How many bits are read ahead of the low ones, how many of these, and what the former say. -/
def rC (q : Nat) : Nat := if q < 24 then q + 1 else 24
def rN (q k : Nat) : Nat := if q < 24 then k else 31
def rH (q k : Nat) : Int := if q < 24 then shlI (q : Int) (k : Int) else 0
def rVal (b : List Int) (m : Int × Int) (a q : Nat) : Int := W (rH q (lowN m) + rTk b (a + rC q) (rN q (lowN m)))
/-- A number can be read. -/
structure ReadOK (b : List Int) (m : Int × Int) (a q : Nat) : Prop where
  q24 : q ≤ 24
  one : ∀ j, j < q → (rTk b (a + j) 1 == 0) = false
  zero : q < 24 → (rTk b (a + q) 1 == 0) = true
  fit : a + rC q + rN q (lowN m) ≤ 8 * b.length
/-- How many events bytes say that they hold. -/
def cntH (x y z : Int) : Int := bitI .or .i64 (bitI .or .i64 (W (W x * 2 ^ (min (16 : Int).toNat IntKind.i64.bits))) (W (W y * 2 ^ (min (8 : Int).toNat IntKind.i64.bits)))) (W z)
/-- The bytes that events were packed to can be read: where each number begins, and with how many ones. -/
structure UnpOK (l : List Evt) (pos mid q1 q2 : Nat → Nat) : Prop where
  h5 : 5 ≤ (pS l l.length).1.1.length
  cnt : cntH ((pS l l.length).1.1.getD 2 0) ((pS l l.length).1.1.getD 3 0) ((pS l l.length).1.1.getD 4 0) = (l.length : Int)
  p0 : pos 0 = 0
  r1 : ∀ i, i < l.length → ReadOK ((pS l l.length).1.1.drop 5) (pS l i).2.1 (pos i) (q1 i)
  v1 : ∀ i, i < l.length → rVal ((pS l l.length).1.1.drop 5) (pS l i).2.1 (pos i) (q1 i) = pGap l i
  m : ∀ i, i < l.length → mid i = pos i + rC (q1 i) + rN (q1 i) (lowN (pS l i).2.1)
  r2 : ∀ i, i < l.length → ReadOK ((pS l l.length).1.1.drop 5) (pS l i).2.2 (mid i) (q2 i)
  v2 : ∀ i, i < l.length → rVal ((pS l l.length).1.1.drop 5) (pS l i).2.2 (mid i) (q2 i) = pPlc l i
  ps : ∀ i, i < l.length → pos (i + 1) = mid i + rC (q2 i) + rN (q2 i) (lowN (pS l i).2.2)
  e0 : 0 < l.length → pGap l 0 = (l.getD 0 evt0).tick ∧ pPlc l 0 = (l.getD 0 evt0).id
  e1 : ∀ i, i < l.length → 0 < i → W (pGap l i + (l.getD (i - 1) evt0).tick) = (l.getD i evt0).tick
  e2 : ∀ i, i < l.length → 0 < i → pGap l i = 0 → W (pPlc l i + W ((l.getD (i - 1) evt0).id + 1)) = (l.getD i evt0).id
  e3 : ∀ i, i < l.length → 0 < i → pGap l i ≠ 0 → pPlc l i = (l.getD i evt0).id
end Go.Proofs.Ythaigkamfnjfbaa
namespace Go.Sx
set_option maxRecDepth 100000
set_option maxHeartbeats 2000000
open Go
/-- What is told under number i is told under the new number n from now on. -/
theorem Run.alias {c : Cx} {T T' : List (Nat × SV)} {M M' : List (Nat × SObj)} {n : Nat} {D : List Deferred} {todo : List Item} {R : Ending → World → Prop} (i : Nat) (h : Run c ⟨T', M', n + 1, D, todo⟩ R) (hT : AllP (fun x => look T x.1 = some (x.2.ren (rs n i)) ∧ x.2.sc (· < n + 1)) T')
    (hM : AllP (fun x => look M (rs n i x.1) = some (x.2.ren (rs n i)) ∧ x.1 < n + 1 ∧ x.1 ≠ i ∧ x.2.sc (· < n + 1)) M') (hL : ∀ p ∈ c.L, p.1 < n) : Run c ⟨T, M, n, D, todo⟩ R := by
  have hT' := AllP.mem hT
  have hM' := AllP.mem hM
  refine Run.less (s' := ⟨T', M', n + 1, D, todo⟩) (rs n i) ⟨fun x hx => hT' x hx, fun x hx => ⟨(hM' x hx).1, (hM' x hx).2.1, (hM' x hx).2.2.2⟩, fun x hx y hy hne he => ?_, fun p hp => ?_, rfl, rfl⟩ h
  · have h1 := (hM' x hx).2.2.1
    have h2 := (hM' y hy).2.2.1
    unfold rs at he
    split at he <;> split at he <;> omega
  · have := hL p hp
    unfold rs
    rw [if_neg (by omega)]
    exact ⟨rfl, show p.1 < n + 1 by omega⟩
/-- A call that makes a slice of its own, and otherwise only new blocks. -/
theorem Run.callO {c : Cx} {T : List (Nat × SV)} {M : List (Nat × SObj)} {n : Nat} {D : List Deferred} {ops : Array Oper} {i : Nat} {r : List Nat} {k : List Item} {R : Ending → World → Prop} {o : Oper} {f : Operand} {args : Array Operand} {ts : Array TypeId}
    {fv : SV} {g : FuncId} {caps vs : List SV} (fs : SV → SV) (gs : Value → Value) {e m : Nat} {te : TypeId} {xs : List Value} (hcall : ∀ ρ w, WI c.w0 c.L ρ (look M) (· < n) w → Calls c.P g (SV.concs ρ (vs ++ caps)).toArray w fun en w' => ∃ u, en = .returned (gs u) ∧ Ext w w' ∧ w'.ownsRow w.heap.size te e u m xs) (hg : Enters c.P g)
    (ho : get ops.toList i = some o) (hop : o.op = .call { callee := .value f, args := args, argTypes := ts }) (hw : wantS ops.toList (look T) o = some true) (hd : okD c.fn.ntmps o.dst = true)
    (hf : ev (look T) f = some fv) (hfv : calleeOf fv = some (g, caps)) (hvs : evs (look T) args.toList = some vs) (hfg : ∀ ρ x, (fs x).conc ρ = gs (x.conc ρ)) (hsc : ∀ S x, SV.sc S x → SV.sc S (fs x))
    (h : Run c ⟨putS T o.dst (fs (.opq n)), (n, .row e m (xs.map .v) te) :: M, n + 1, D, .inRegion ops r :: k⟩ R) : Run c ⟨T, M, n, D, .inRegion ops (i :: r) :: k⟩ R := by
  refine Run.callG (vs := vs) (caps := caps) ho hop hw hd hf hfv hvs hg (fun v M' n' => v = fs (.opq n) ∧ M' = (n, .row e m (xs.map .v) te) :: M ∧ n' = n + 1) (fun ρ w hs hW => ?_) (fun v M' n' ⟨h1, h2, h3⟩ => by subst h1; subst h2; subst h3; exact h)
  refine (hcall ρ w hW).mono fun en w' ⟨u, hen, hx, hown⟩ => ?_
  have ho0 : w'.ownsRow 0 te e u m (SV.concs ρ (xs.map .v)) := by rw [concs_v]; exact ownsRow_mono hown (Nat.zero_le _)
  obtain ⟨hW', hag⟩ := hW.rowTo (M1 := look M) (fun _ _ h => h) (i := n) (Nat.lt_irrefl n) (v := u) (row := none) (hx.grown none) (fun b hb => by cases hb) (fun gg hgg => by
    rcases hown.2 with ⟨hn, _⟩ | ⟨g0, cap, cur, h1, h2, _⟩
    · rw [hn] at hgg; cases hgg
    · rw [h1] at hgg
      obtain rfl := Option.some.inj hgg
      exact .inr h2) ho0 (scs_v _ _)
  refine ⟨ρ.bindV n u, fs (.opq n), (n, .row e m (xs.map .v) te) :: M, n + 1, ?_, hag, Nat.le_succ n, hsc _ _ (Nat.lt_succ_self n), ?_, rfl, rfl, rfl⟩
  · rw [hfg, conc_bindV ho0 ρ n]; exact hen
  · rw [look_upd]
    exact hW'.mono fun q hq => by have hq : q < n ∨ q = n := hq; show q < n + 1; omega
theorem run_eqArr2 {P : Program} {w : World} {t el : TypeId} {inf : TypeInfo} (hd : P.underlying t = some (.array 2 el)) (he : P.underlying el = some (.int .u8)) (hi : P.info? el = some inf) (h1 : inf.size = 1) (a b c d : Int) (n : Nat) :
    (Op.equalIn (n + 2) t (.agg #[.int .u8 a, .int .u8 b]) (.agg #[.int .u8 c, .int .u8 d])).run P w = .ok (a == c && b == d) w := by
  have hs : (sizeOf el).run P w = .ok 1 w := by rw [run_szOf hi, h1]
  have ha : (Go.isAgg el).run P w = .ok false w := by simp [Go.isAgg, run_und he]
  have hp : ∀ (x y : Int) (k : Nat) (v : Value), (#[Value.int .u8 x, Value.int .u8 y])[k]? = some v → (part el #[Value.int .u8 x, Value.int .u8 y] k).run P w = .ok v w := by
    intro x y k v hk
    simp [part, ha, hk]
  have hq : ∀ (x y : Int), (Op.equalIn (n + 1) el (.int .u8 x) (.int .u8 y)).run P w = .ok (x == y) w := by
    intro x y
    simp [Op.equalIn, run_und he]
  rw [show n + 2 = (n + 1) + 1 from rfl, Op.equalIn]
  generalize Op.equalIn (n + 1) = E at hq ⊢
  simp only [Sem.run_bind, run_und hd, Result.andThen, hs]
  simp only [Std.Legacy.Range.forIn_eq_forIn_range', Std.Legacy.Range.size]
  simp [List.range', hp a b 0 _ rfl, hp c d 0 _ rfl, hq, Result.andThen]
  cases h0 : (a == c) <;> cases h2 : (b == d) <;> simp_all [Result.andThen]
/-- An operation that gives a value, and changes nothing. -/
theorem Run.opV {c : Cx} {T : List (Nat × SV)} {M : List (Nat × SObj)} {n : Nat} {D : List Deferred} {ops : Array Oper} {i : Nat} {r : List Nat} {k : List Item} {R : Ending → World → Prop} {o : Oper} (v : SV) (hrun : ∀ ρ a w, WI c.w0 c.L ρ (look M) (· < n) w → TmOk ρ (look T) (· < n) a → (execOp a.eval o).run c.P w = .ok (.value (v.conc ρ)) w ∧ v.sc (· < n))
    (ho : get ops.toList i = some o) (hw : wantS ops.toList (look T) o = some true) (hd : okD c.fn.ntmps o.dst = true) (h : Run c ⟨putS T o.dst v, M, n, D, .inRegion ops r :: k⟩ R) : Run c ⟨T, M, n, D, .inRegion ops (i :: r) :: k⟩ R := by
  refine ⟨fun ρ a w hi => TW.op (by rw [← Array.getElem?_toList, ← get_eq]; exact ho) (wantS_ok hi.tm hw) ?_⟩
  obtain ⟨h1, h2⟩ := hrun ρ a w hi.wi hi.tm
  exact Oc.value h1 (h.go ρ _ w (hi.put hd (Env.agree.refl _ _) (Nat.le_refl _) h2 hi.wi _))
/-- An array is built. -/
theorem Run.buildArr {c : Cx} (hc : c.ok) {T : List (Nat × SV)} {M : List (Nat × SObj)} {n : Nat} {D : List Deferred} {ops : Array Oper} {i : Nat} {r : List Nat} {k : List Item} {R : Ending → World → Prop} {o : Oper} {t : TypeId} {parts : Array (Nat × Operand)} {ti : TI} {len sz : Nat} {ag : Bool} {ps : List (Nat × SV)} (cs : List SV)
    (ho : get ops.toList i = some o) (hop : o.op = .build t parts) (hw : wantS ops.toList (look T) o = some true) (hd : okD c.fn.ntmps o.dst = true) (ht : look c.tab t = some ti) (hs : ti.sh = .arr len (sz + 1) ag) (hps : evParts (look T) parts.toList = some ps) (hcs : fillS (fun i => some (i * (sz + 1), sz + 1)) (ti.zero.map .v) ps = some cs)
    (h : Run c ⟨putS T o.dst (.agg cs), M, n, D, .inRegion ops r :: k⟩ R) : Run c ⟨T, M, n, D, .inRegion ops (i :: r) :: k⟩ R := by
  refine Run.opV (.agg cs) (fun ρ a w hW hT => ?_) ho hw hd h
  have hti := Tab.ok_look hc.tab ht
  obtain ⟨d, hd, hsh⟩ := hti.desc
  obtain ⟨z, hz, hzc⟩ := run_zero (w := w) hti
  obtain ⟨el, rfl, g2⟩ := sh_desc.2.2.2.2.2.1 len (sz + 1) ag (hsh.trans hs)
  obtain ⟨p1, p2⟩ := evParts_ok hT hps
  obtain ⟨f1, f2⟩ := fillS_ok (ρ := ρ) (S := (· < n)) hcs (scs_v _ _) p2
  rw [concs_v] at f1
  refine ⟨?_, f2⟩
  have hsz : (sizeOf el).run c.P w = .ok (sz + 1) w := by
    unfold fieldSh at g2
    split at g2
    · rename_i inf d2 hi hd2
      rw [run_szOf hi]
      rw [(Prod.mk.inj g2).1]
    · simp at g2
  have hpp : (parts.map fun (p : Nat × Operand) => (p.1, a.eval p.2)).toList = ps.map fun p => (p.1, p.2.conc ρ) := by simpa using p1
  have hr : (Instr.build t (parts.map fun (p : Nat × Operand) => (p.1, a.eval p.2))).run c.P w = .ok (.agg (SV.concs ρ cs).toArray) w := by
    simp only [Instr.build, Sem.run_bind, hz, Result.andThen, hzc, run_und hd, hsz, hpp, f1]
    rfl
  simp [execOp, hop, hr, SV.conc]
/-- Two arrays of two bytes, compared. -/
theorem Run.neqArr2 {c : Cx} {T : List (Nat × SV)} {M : List (Nat × SObj)} {n : Nat} {D : List Deferred} {ops : Array Oper} {i : Nat} {r : List Nat} {k : List Item} {R : Ending → World → Prop} {o : Oper} {t t2 el : TypeId} {x y : Operand} {inf : TypeInfo} (a b e f : Int)
    (ho : get ops.toList i = some o) (hop : o.op = .binOp .neq t x y t2) (hw : wantS ops.toList (look T) o = some true) (hd : okD c.fn.ntmps o.dst = true) (hx : ev (look T) x = some (.agg [.v (.int .u8 a), .v (.int .u8 b)])) (hy : ev (look T) y = some (.agg [.v (.int .u8 e), .v (.int .u8 f)]))
    (ht : c.P.underlying t = some (.array 2 el)) (he : c.P.underlying el = some (.int .u8)) (hi : c.P.info? el = some inf) (h1 : inf.size = 1) (hg : c.P.eqGuardType c.P.depth t = false)
    (h : Run c ⟨putS T o.dst (.v (.bool !(a == e && b == f))), M, n, D, .inRegion ops r :: k⟩ R) : Run c ⟨T, M, n, D, .inRegion ops (i :: r) :: k⟩ R := by
  refine Run.opV (.v (.bool !(a == e && b == f))) (fun ρ ac w hW hT => ⟨?_, trivial⟩) ho hw hd h
  have e1 := (ev_ok hT hx).1
  have e2 := (ev_ok hT hy).1
  simp only [SV.conc, SV.concs] at e1 e2
  have hr := run_eqArr2 (w := w) ht he hi h1 a b e f 9998
  have hr2 : (Op.equal t (.agg #[.int .u8 a, .int .u8 b]) (.agg #[.int .u8 e, .int .u8 f])).run c.P w = .ok (a == e && b == f) w := hr
  simp [execOp, hop, e1, e2, eqGuard, hg, Go.binOp, hr2, SV.conc]
end Go.Sx
namespace Go.Proofs.Ythaigkamfnjfbaa
open Go.Sx
set_option maxRecDepth 100000
set_option maxHeartbeats 4000000
theorem scs_u8 (S : Nat → Prop) (l : List Int) : SV.scs S (l.map fun x => u8s x) := by
  induction l with
  | nil => trivial
  | cons a l ih => exact ⟨trivial, ih⟩
theorem fix_u8 {r : Nat → Nat} (m : Nat) (l : List Int) (t : TypeId) : (SObj.row 1 m (l.map fun x => u8s x) t).ren r = .row 1 m (l.map fun x => u8s x) t := oren_fix (S := fun _ => False) (fun _ hi => hi.elim) (o := .row 1 m (l.map fun x => u8s x) t) (scs_u8 _ _)
/-- Bits are written. -/
theorem wr_spec (s0 : List Int × Int) (v n : Int) (m : Nat) (hs0 : WOK s0 m) (hm : m ≤ 4000000) (hn0 : 0 ≤ n) (hn1 : n ≤ 64) : BSpec Try.prog 59 [ii v, ii n, .ptr 1 0, .ptr 2 0] [(0, .cells [.opq 3] 22), (1, .cells [ii s0.2] 3), (2, .cells [.ptr 0 0] 101), (3, .row 1 s0.1.length (s0.1.map fun x => u8s x) 5)] 4 [0, 1, 2, 3] (.tup []) [(0, .cells [.opq 4] 22), (1, .cells [ii (wBits v n n.toNat s0).2] 3), (2, .cells [.ptr 0 0] 101), (4, .row 1 (wBits v n n.toNat s0).1.length ((wBits v n n.toNat s0).1.map fun x => u8s x) 5)] 5 := by
  have hc : ∀ w L' rd, (∀ p, rd = some p → p ∈ L') → Cx.ok ⟨Try.prog, tab, [(2000, fun _ _ => none)], 59, Try.f59, [], w, L', rd⟩ := fun w L' rd h => ⟨tab_ok, ⟨trivial, trivial⟩, Try.func59, mixed, h⟩
  refine BSpec.start (tab := tab) (pf := [(2000, fun _ _ => none)]) (cuts := []) Try.func59 rfl ⟨trivial, trivial, (show 1 < 4 by decide), (show 2 < 4 by decide), trivial⟩ rfl fun w L0 plp hL hLB hcov => Run.of_wpK (hc w L0 none (fun _ h => by cases h)) 100 _ ?_
  generalize hRR : SpecR _ _ _ _ _ _ = RR
  conv => whnf
  have hW1 : IntKind.i64.wrap (n - 1) = n - 1 - ((0 : Nat) : Int) := by rw [show n - 1 - ((0 : Nat) : Int) = n - 1 by omega]; exact W_id (by omega) (by omega)
  refine Run.alias 3 (T' := [(0, ii v), (1, ii (n - 1 - ((0 : Nat) : Int))), (2, .ptr 1 0), (3, .ptr 2 0)]) (M' := [(4, .pin plp), (0, .cells [.opq 5] 22), (1, .cells [ii s0.2] 3), (2, .cells [.ptr 0 0] 101), (5, .row 1 s0.1.length (s0.1.map fun x => u8s x) 5)]) ?_ ⟨⟨rfl, trivial⟩, ⟨congrArg some (congrArg ii hW1), trivial⟩, ⟨rfl, (show 1 < 6 by decide)⟩, ⟨rfl, (show 2 < 6 by decide)⟩, trivial⟩ ⟨⟨congrArg some (pin_fix hcov (fun _ hi => by unfold rs; rw [if_neg (by omega)])).symm, by omega, by omega, fun p hp => Nat.lt_of_lt_of_le (hcov.1 p hp) (show 4 ≤ 6 by decide)⟩, ⟨rfl, by omega, by omega, by simp [SObj.sc, SV.scs, SV.sc]⟩, ⟨rfl, by omega, by omega, by simp [SObj.sc, SV.scs, SV.sc]⟩, ⟨rfl, by omega, by omega, by simp [SObj.sc, SV.scs, SV.sc]⟩, ⟨congrArg some (fix_u8 _ _ _).symm, by omega, by omega, scs_u8 _ _⟩, trivial⟩ (fun p hp => by have := hLB p hp; omega)
  refine Run.upToJ (T := fun i => [(0, ii v), (1, ii (n - 1 - ((i : Nat) : Int))), (2, .ptr 1 0), (3, .ptr 2 0)]) (M := fun i => [(4, .pin plp), (0, .cells [.opq 5] 22), (1, .cells [ii (wBits v n i s0).2] 3), (2, .cells [.ptr 0 0] 101), (5, .row 1 (wBits v n i s0).1.length ((wBits v n i s0).1.map fun x => u8s x) 5)]) (fun _ => True) n.toNat trivial ?_ ?_
  · intro i hi _ ih
    refine Run.of_wpK (hc w L0 none (fun _ h => by cases h)) 1000 _ ?_
    conv => whnf
    rw [decide_eq_true (show (0 : Int) ≤ n - 1 - ((i : Nat) : Int) by omega)]
    conv => whnf
    have hso := wBits_ok hs0 i (v := v) (n := n)
    have hsucc : wBits v n (i + 1) s0 = wBit v (n - 1 - (i : Int)) (wBits v n i s0) := rfl
    obtain ⟨s, hs⟩ : ∃ s, wBits v n i s0 = s := ⟨_, rfl⟩
    rw [hs] at hso hsucc
    rw [hs]
    obtain ⟨p, hp⟩ : ∃ p, wPre s = p := ⟨_, rfl⟩
    obtain ⟨hpo, hp1⟩ := wPre_ok hso
    rw [hp] at hpo hp1
    unfold wBit at hsucc
    rw [hp] at hsucc
    have hp2 := hpo.r1
    have hp3 := hpo.pos
    have hp4 := hpo.le
    have hs4 := hso.le
    have hi64 : i < 64 := by omega
    apply joinN (c := ⟨Try.prog, tab, [(2000, fun _ _ => none)], 59, Try.f59, [], w, L0, none⟩) (R := RR) [(0, ii v), (1, ii (n - 1 - ((i : Nat) : Int))), (2, .ptr 1 0), (3, .ptr 2 0)] [(4, .pin plp), (0, .cells [.opq 5] 22), (1, .cells [ii (W (p.2 - 1))] 3), (2, .cells [.ptr 0 0] 101), (5, .row 1 p.1.length (p.1.map fun x => u8s x) 5)] 6
    · intro hnext
      cases e1 : (s.2 == 0)
      case true =>
        have hp : (s.1 ++ [0], 8) = p := by rw [← hp]; unfold wPre; rw [if_pos (by simpa using e1)]
        conv => whnf
        refine Run.draw (hc w L0 none (fun _ h => by cases h)) 6 ?_
        conv => whnf
        refine ⟨by omega, ?_⟩
        conv => whnf
        refine ⟨by kernel_rfl, ?_⟩
        refine Run.of_wpK (hc w L0 none (fun _ h => by cases h)) 1000 _ ?_
        conv => whnf
        exact Run.trimQ (T' := [(0, ii v), (1, ii (n - 1 - ((i : Nat) : Int))), (2, .ptr 1 0), (3, .ptr 2 0)]) (M' := [(4, .pin plp), (0, .cells [.opq 5] 22), (1, .cells [ii (W (p.2 - 1))] 3), (2, .cells [.ptr 0 0] 101), (5, .row 1 p.1.length (p.1.map fun x => u8s x) 5)]) (rq [(5, 11), (11, 5)]) 6 (by
          intro i hi j hj hne he
          have inv : ∀ i, i < 6 → rq [(5, 11), (11, 5)] (rq [(5, 11), (11, 5)] i) = i := by decide
          exact hne (by rw [← inv i hi, he, inv j hj])) ⟨⟨rfl, trivial⟩, ⟨rfl, trivial⟩, ⟨rfl, (show 1 < 6 by decide)⟩, ⟨rfl, (show 2 < 6 by decide)⟩, trivial⟩ ⟨⟨congrArg some (pin_fix hcov (fun i hi => rq_fix (rq_noneB (B := 4) rfl hi))).symm, by omega, fun p hp => Nat.lt_of_lt_of_le (hcov.1 p hp) (show 4 ≤ 6 by decide)⟩, ⟨rfl, by omega, by simp [SObj.sc, SV.scs, SV.sc]⟩, ⟨by rw [← hp]; rfl, by omega, by simp [SObj.sc, SV.scs, SV.sc]⟩, ⟨rfl, by omega, by simp [SObj.sc, SV.scs, SV.sc]⟩, ⟨by rw [fix_u8, ← hp]; show some (SObj.row 1 (s.1.length + 1) (s.1.map (fun x => u8s x) ++ [u8s 0]) 5) = _; simp only [List.length_append, List.map_append]; rfl, by omega, scs_u8 _ _⟩, trivial⟩ (by
          intro p hp
          have := hLB p hp; exact ⟨rq_fix (rq_noneB (B := 4) rfl this), by omega⟩) hnext

      case false =>
        have hp : s = p := by rw [← hp]; unfold wPre; rw [if_neg (by simpa using e1)]
        conv => whnf
        exact Run.trim (T' := [(0, ii v), (1, ii (n - 1 - ((i : Nat) : Int))), (2, .ptr 1 0), (3, .ptr 2 0)]) (M' := [(4, .pin plp), (0, .cells [.opq 5] 22), (1, .cells [ii (W (p.2 - 1))] 3), (2, .cells [.ptr 0 0] 101), (5, .row 1 p.1.length (p.1.map fun x => u8s x) 5)]) 6 ⟨⟨rfl, trivial⟩, ⟨rfl, trivial⟩, ⟨rfl, (show 1 < 6 by decide)⟩, ⟨rfl, (show 2 < 6 by decide)⟩, trivial⟩ ⟨⟨rfl, by omega, fun p hp => Nat.lt_of_lt_of_le (hcov.1 p hp) (show 4 ≤ 6 by decide)⟩, ⟨rfl, by omega, by simp [SObj.sc, SV.scs, SV.sc]⟩, ⟨by rw [← hp]; rfl, by omega, by simp [SObj.sc, SV.scs, SV.sc]⟩, ⟨rfl, by omega, by simp [SObj.sc, SV.scs, SV.sc]⟩, ⟨by rw [← hp]; rfl, by omega, scs_u8 _ _⟩, trivial⟩ (fun p hp => by have := hLB p hp; omega) hnext
    · have hidx : IntKind.i64.wrap ((p.1.length : Int) - 1) = ((p.1.length - 1 : Nat) : Int) := by
        rw [show ((p.1.length - 1 : Nat) : Int) = (p.1.length : Int) - 1 by omega]
        exact W_id (by omega) (by omega)
      have hk : p.1.length - 1 < p.1.length := by omega
      have hw1 : W (p.2 - 1) = p.2 - 1 := W_id (by omega) (by omega)
      refine Run.of_wpK (hc w L0 none (fun _ h => by cases h)) 1000 _ ?_
      conv => whnf
      refine Run.draw (hc w L0 none (fun _ h => by cases h)) 18 ?_
      rw [show upto 0 18 = upto 0 9 ++ (upto 9 1 ++ (upto 10 3 ++ (upto 13 4 ++ upto 17 1))) from rfl]
      simp only [drawK_app]
      conv => whnf
      rw [hidx]
      refine ⟨by omega, ?_⟩
      conv => whnf
      rw [opF_loadR1 (c := u8s (p.1.getD (p.1.length - 1) 0)) (p.1.length - 1) rfl rfl rfl rfl (by rw [idx_nat, Nat.mul_one]) (by simp [List.getElem?_eq_getElem hk, List.getD_eq_getElem?_getD])]
      conv => whnf
      refine ⟨by omega, ?_⟩
      conv => whnf
      refine ⟨by omega, ?_⟩
      conv => whnf
      refine ⟨by kernel_rfl, ?_⟩
      refine Run.of_wpK (hc w L0 none (fun _ h => by cases h)) 1000 _ ?_
      conv => whnf
      refine ⟨by omega, ?_⟩
      conv => whnf
      rw [opF_storeR1 (v := u8s (orb (p.1.getD (p.1.length - 1) 0) (bitW v (n - 1 - (i : Int))) (W (p.2 - 1)))) (p.1.length - 1) rfl rfl rfl rfl rfl (by rw [idx_nat, Nat.mul_one]) (by rw [List.length_map]; omega) rfl rfl]
      conv => whnf
      rw [hsucc] at ih
      exact Run.trim (T' := [(0, ii v), (1, ii (n - 1 - ((i + 1 : Nat) : Int))), (2, .ptr 1 0), (3, .ptr 2 0)]) (M' := [(4, .pin plp), (0, .cells [.opq 5] 22), (1, .cells [ii (wPut v (n - 1 - (i : Int)) p).2] 3), (2, .cells [.ptr 0 0] 101), (5, .row 1 (wPut v (n - 1 - (i : Int)) p).1.length ((wPut v (n - 1 - (i : Int)) p).1.map fun x => u8s x) 5)]) 6 ⟨⟨rfl, trivial⟩, ⟨congrArg some (congrArg ii (by rw [show n - 1 - ((i + 1 : Nat) : Int) = n - 1 - (i : Int) - 1 by omega]; exact W_id (by omega) (by omega))), trivial⟩, ⟨rfl, (show 1 < 6 by decide)⟩, ⟨rfl, (show 2 < 6 by decide)⟩, trivial⟩ ⟨⟨rfl, by omega, fun p hp => Nat.lt_of_lt_of_le (hcov.1 p hp) (show 4 ≤ 6 by decide)⟩, ⟨rfl, by omega, by simp [SObj.sc, SV.scs, SV.sc]⟩, ⟨rfl, by omega, by simp [SObj.sc, SV.scs, SV.sc]⟩, ⟨rfl, by omega, by simp [SObj.sc, SV.scs, SV.sc]⟩, ⟨by show _ = some (SObj.row 1 (p.1.set _ _).length ((p.1.set _ _).map fun x => u8s x) 5); rw [List.length_set, List.map_set]; rfl, by omega, scs_u8 _ _⟩, trivial⟩ (fun p hp => by have := hLB p hp; omega) (ih trivial)
  · intro _
    refine Run.of_wpK (hc w L0 none (fun _ h => by cases h)) 1000 _ ?_
    conv => whnf
    rw [decide_eq_false (show ¬ (0 : Int) ≤ n - 1 - ((n.toNat : Nat) : Int) by omega)]
    conv => whnf
    rw [← hRR]
    exact SpecR.intro 5 (by decide) hLB (by decide) hcov rfl rfl trivial ⟨⟨rfl, by omega, by simp [SObj.sc, SV.scs, SV.sc]⟩, ⟨rfl, by omega, by simp [SObj.sc, SV.scs, SV.sc]⟩, ⟨rfl, by omega, by simp [SObj.sc, SV.scs, SV.sc]⟩, ⟨congrArg some (fix_u8 _ _ _).symm, by omega, scs_u8 _ _⟩, trivial⟩
def FPP_v (f : Int × Int → Value) : List SV → Option SV
  | [.agg [.v (.int .i64 a), .v (.int .i64 b)]] => some (.v (f (a, b)))
  | _ => none
theorem Pure.ofPP {g : FuncId} {f : Int × Int → Value} (he : Enters Try.prog g) (h : ∀ a b w, Calls Try.prog g #[.agg #[.int .i64 a, .int .i64 b]] w fun e w' => e = .returned (f (a, b)) ∧ Ext w w') : Pure Try.prog g (plainF (FPP_v f)) := PureV.lift {
  ent := he
  sc := fun S args v hv _ => by
    unfold FPP_v at hv
    split at hv
    · obtain rfl := Option.some.inj hv; trivial
    · cases hv
  run := fun ρ args v w hv => by
    unfold FPP_v at hv
    split at hv
    · obtain rfl := Option.some.inj hv; exact h _ _ w
    · cases hv }
theorem low_pure : Pure Try.prog 44 (plainF (FPP_v fun m => .int .i64 (lowN m : Int))) := Pure.ofPP (ent _ _ Try.func44 (by kernel_rfl) rfl) fun a b w => by
  have hc : ∀ w L' rd, (∀ p, rd = some p → p ∈ L') → Cx.ok ⟨Try.prog, tab, [], 44, Try.f44, [], w, L', rd⟩ := fun w L' rd h => ⟨tab_ok, trivial, Try.func44, mixed, h⟩
  refine Run.start0 (tab := tab) (pf := []) (cuts := []) mixed tab_ok trivial Try.func44 rfl [.agg [ii a, ii b]] 100 (by simp [SV.scs, SV.sc]) rfl ?_
  conv => whnf
  refine Run.trim (T' := [(1, .ptr 0 0), (3, ii (((0 : Nat) : Nat) : Int))]) (M' := [(0, .cells [ii a, ii b] 75)]) 1 ⟨⟨rfl, (show 0 < 1 by decide)⟩, ⟨rfl, trivial⟩, trivial⟩ ⟨⟨rfl, by omega, by simp [SObj.sc, SV.scs, SV.sc]⟩, trivial⟩ (fun p hp => by cases hp) ?_
  refine Run.upToJ (T := fun i => [(1, .ptr 0 0), (3, ii ((i : Nat) : Int))]) (M := fun i => [(0, .cells [ii a, ii b] 75)]) (fun i => ∀ j, j < i → lowB (a, b) j = true) (24) (fun j hj => by omega) ?_ ?_
  · intro i hi hJ ih
    refine Run.of_wpK (hc w [] none (fun _ h => by cases h)) 1000 _ ?_
    conv => whnf
    refine Run.draw (hc w [] none (fun _ h => by cases h)) 9 ?_
    rw [show upto 0 9 = upto 0 3 ++ (upto 3 4 ++ upto 7 2) from rfl]
    simp only [drawK_app]
    conv => whnf
    rw [decide_eq_true (show ((i : Nat) : Int) < (24 : Int) by omega)]
    conv => whnf
    refine ⟨by omega, ?_⟩
    conv => whnf
    refine ⟨by kernel_rfl, ?_⟩
    refine Run.of_wpK (hc w [] none (fun _ h => by cases h)) 1000 _ ?_
    conv => whnf
    cases e : decide (IntKind.i64.wrap (b * 2 ^ (min ((i : Nat) : Int).toNat IntKind.i64.bits)) < a)
    case false =>
      conv => whnf
      exact ⟨fun ρ w' hW _ => ⟨by rw [lowN_at hi hJ e]; rfl, hW.toExt⟩⟩
    case true =>
      conv => whnf
      exact Run.trim (T' := [(1, .ptr 0 0), (3, ii ((i + 1 : Nat) : Int))]) (M' := [(0, .cells [ii a, ii b] 75)]) 1 ⟨⟨rfl, (show 0 < 1 by decide)⟩, ⟨congrArg some (congrArg ii (wrap_succ (by omega))), trivial⟩, trivial⟩ ⟨⟨rfl, by omega, by simp [SObj.sc, SV.scs, SV.sc]⟩, trivial⟩ (fun p hp => by cases hp) (ih fun j hj => by
        rcases Nat.lt_or_ge j i with h | h
        · exact hJ j h
        · obtain rfl : j = i := by omega
          exact e)
  · intro hJ
    refine Run.of_wpK (hc w [] none (fun _ h => by cases h)) 1000 _ ?_
    conv => whnf
    refine Run.draw (hc w [] none (fun _ h => by cases h)) 9 ?_
    rw [show upto 0 9 = upto 0 3 ++ (upto 3 4 ++ upto 7 2) from rfl]
    simp only [drawK_app]
    conv => whnf
    rw [decide_eq_false (show ¬ ((24 : Nat) : Int) < (24 : Int) by omega)]
    conv => whnf
    refine ⟨by kernel_rfl, ?_⟩
    refine Run.of_wpK (hc w [] none (fun _ h => by cases h)) 1000 _ ?_
    conv => whnf
    exact ⟨fun ρ w' hW _ => ⟨by rw [lowN_end hJ]; rfl, hW.toExt⟩⟩
/-- A model learns a number. -/
theorem learn_spec (m : Int × Int) (v : Int) : BSpec Try.prog 45 [.ptr 0 0, ii v] [(0, .cells [ii m.1, ii m.2] 75)] 1 [0] (.tup []) [(0, .cells [ii (mLearn m v).1, ii (mLearn m v).2] 75)] 1 := by
  have hc : ∀ w L' rd, (∀ p, rd = some p → p ∈ L') → Cx.ok ⟨Try.prog, tab, [], 45, Try.f45, [], w, L', rd⟩ := fun w L' rd h => ⟨tab_ok, trivial, Try.func45, mixed, h⟩
  refine BSpec.start (tab := tab) (pf := []) (cuts := []) Try.func45 rfl ⟨(show 0 < 1 by decide), trivial, trivial⟩ rfl fun w L0 plp hL hLB hcov => Run.of_wpK (hc w L0 none (fun _ h => by cases h)) 100 _ ?_
  generalize hRR : SpecR _ _ _ _ _ _ = RR
  conv => whnf
  have e0 : W (m.2 + 1) = IntKind.i64.wrap (m.2 + 1) := rfl
  cases e1 : IntKind.i64.wrap (m.2 + 1) == 64
  case false =>
    conv => whnf
    rw [← hRR]
    exact SpecR.intro 2 (by decide) (fun p hp => by have := hLB p hp; omega) (by decide) hcov rfl rfl trivial ⟨⟨by unfold mLearn; rw [if_neg (by rw [e0]; simpa using e1)]; rfl, by omega, by simp [SObj.sc, SV.scs, SV.sc]⟩, trivial⟩
  case true =>
    conv => whnf
    refine Run.draw (hc w L0 none (fun _ h => by cases h)) 15 ?_
    rw [show upto 0 15 = upto 0 7 ++ (upto 7 5 ++ upto 12 3) from rfl]
    simp only [drawK_app]
    conv => whnf
    refine ⟨by decide, ?_⟩
    conv => whnf
    refine ⟨by decide, ?_⟩
    conv => whnf
    refine ⟨by kernel_rfl, ?_⟩
    refine Run.of_wpK (hc w L0 none (fun _ h => by cases h)) 1000 _ ?_
    conv => whnf
    rw [← hRR]
    exact SpecR.intro 2 (by decide) (fun p hp => by have := hLB p hp; omega) (by decide) hcov rfl rfl trivial ⟨⟨by unfold mLearn; rw [if_pos (by rw [e0]; simpa using e1)]; rfl, by omega, by simp [SObj.sc, SV.scs, SV.sc]⟩, trivial⟩
/-- A number is written. -/
theorem write_spec (m : Int × Int) (s0 : List Int × Int) (v : Int) (q : Nat) (hs0 : WOK s0 q) (hq : q ≤ 3000000) (hv0 : 0 ≤ v) : BSpec Try.prog 42 [.ptr 4 0, ii v, .fn 59 [.ptr 1 0, .ptr 2 0]] [(0, .cells [.opq 3] 22), (1, .cells [ii s0.2] 3), (2, .cells [.ptr 0 0] 101), (3, .row 1 s0.1.length (s0.1.map fun x => u8s x) 5), (4, .cells [ii m.1, ii m.2] 75)] 5 [0, 1, 2, 3, 4] (.tup []) [(0, .cells [.opq 5] 22), (1, .cells [ii (mWrite m v s0).2] 3), (2, .cells [.ptr 0 0] 101), (5, .row 1 (mWrite m v s0).1.length ((mWrite m v s0).1.map fun x => u8s x) 5), (4, .cells [ii (mLearn m v).1, ii (mLearn m v).2] 75)] 6 := by
  have hkle := lowN_le m
  have e0 : ∀ k, lowN m = k → mWrite m v s0 = if shrI v k < 24 then wBits v k k (wBits (W (shlI 1 (W (shrI v k + 1)) - 2)) (W (shrI v k + 1)) (W (shrI v k + 1)).toNat s0) else wBits v 31 31 (wBits 16777215 24 24 s0) := fun k hk => by subst hk; rfl
  obtain ⟨lf, hlf⟩ : ∃ f, lowN = f := ⟨_, rfl⟩
  have hlfp : Pure Try.prog 44 (plainF (FPP_v fun m => .int .i64 (lf m : Int))) := by rw [← hlf]; exact low_pure
  rw [hlf] at hkle e0
  obtain ⟨ma, mb⟩ := m
  obtain ⟨k, hk⟩ : ∃ k, lf (ma, mb) = k := ⟨_, rfl⟩
  have e0 := e0 k hk
  have hk24 : k ≤ 24 := by rw [← hk]; exact hkle
  have hc : ∀ w L' rd, (∀ p, rd = some p → p ∈ L') → Cx.ok ⟨Try.prog, tab, [(44, plainF (FPP_v fun m => .int .i64 (lf m : Int)))], 42, Try.f42, [], w, L', rd⟩ := fun w L' rd h => ⟨tab_ok, ⟨hlfp, trivial⟩, Try.func42, mixed, h⟩
  refine BSpec.start (tab := tab) (pf := [(44, plainF (FPP_v fun m => .int .i64 (lf m : Int)))]) (cuts := []) Try.func42 rfl ⟨(show 4 < 5 by decide), trivial, ⟨(show 1 < 5 by decide), (show 2 < 5 by decide), trivial⟩, trivial⟩ rfl fun w L0 plp hL hLB hcov => Run.of_wpK (hc w L0 none (fun _ h => by cases h)) 100 _ ?_
  generalize hRR : SpecR _ _ _ _ _ _ = RR
  conv => whnf
  rw [hk]
  refine ⟨by omega, ?_⟩
  conv => whnf
  have hq0 : 0 ≤ shrI v k := Int.fdiv_nonneg hv0 (Int.le_of_lt (Int.pow_pos (by decide)))
  rw [show v.fdiv (2 ^ min ((k : Nat) : Int).toNat IntKind.i64.bits) = shrI v k from rfl]
  obtain ⟨u, hu⟩ : ∃ u, shrI v k = u := ⟨_, rfl⟩
  rw [hu] at hq0 e0 ⊢
  cases e1 : decide (u < 24)
  case true =>
    have e1 := of_decide_eq_true e1
    have hwu : IntKind.i64.wrap (u + 1) = u + 1 := W_id (by omega) (by omega)
    rw [if_pos e1] at e0
    have hwu3 : (W (u + 1)).toNat ≤ 64 := by show (IntKind.i64.wrap (u + 1)).toNat ≤ 64; omega
    have hwu2 : (0 : Int) ≤ IntKind.i64.wrap (u + 1) ∧ IntKind.i64.wrap (u + 1) ≤ 64 := by omega
    conv => whnf
    refine ⟨hwu2.1, ?_⟩
    conv => whnf
    refine Run.callR (vs := [ii ((W (shlI 1 (W (u + 1)) - 2))), ii ((W (u + 1)))]) (caps := [.ptr 1 0, .ptr 2 0]) (caps2 := [.ptr 1 0, .ptr 2 0]) (wr_spec s0 (W (shlI 1 (W (u + 1)) - 2)) (W (u + 1)) _ hs0 (by omega) hwu2.1 hwu2.2) (ent _ _ Try.func59 (by kernel_rfl) rfl) rfl rfl rfl rfl rfl rfl [ii ((W (shlI 1 (W (u + 1)) - 2))), ii ((W (u + 1)))] rfl (rq [(3, 3), (3, 3)]) rfl (fun q hq => by have inv : ∀ q, q < 4 → (rq [(3, 3), (3, 3)]) q < 6 := (by decide); exact inv q hq) (fun q hq j hj hne => by have inj : ∀ i, i < 4 → ∀ j, j < 4 → i ≠ j → (rq [(3, 3), (3, 3)]) i ≠ (rq [(3, 3), (3, 3)]) j := (by decide); exact inj q hq j hj hne) (by decide)
      ⟨⟨by omega, by simp [SObj.sc, SV.scs, SV.sc], ⟨_, rfl, Conv.refl _⟩, .inr (by simp), fun h => by cases h⟩, ⟨by omega, by simp [SObj.sc, SV.scs, SV.sc], ⟨_, rfl, Conv.refl _⟩, .inr (by simp), fun h => by cases h⟩, ⟨by omega, by simp [SObj.sc, SV.scs, SV.sc], ⟨_, rfl, Conv.refl _⟩, .inr (by simp), fun h => by cases h⟩, ⟨by omega, scs_u8 _ _, ⟨_, rfl, by rw [fix_u8]; exact Conv.refl _⟩, .inr (by simp), fun h => by cases h⟩, trivial⟩ (fun q hq => by have hq2 : q = 0 ∨ q = 1 ∨ q = 2 ∨ q = 3 := (by simpa using hq); rcases hq2 with rfl | rfl | rfl | rfl <;> exact ⟨by omega, _, rfl⟩) (.tup []) [(0, .cells [.opq 6] 22), (1, .cells [ii (wBits (W (shlI 1 (W (u + 1)) - 2)) (W (u + 1)) ((W (u + 1))).toNat s0).2] 3), (2, .cells [.ptr 0 0] 101), (6, .row 1 (wBits (W (shlI 1 (W (u + 1)) - 2)) (W (u + 1)) ((W (u + 1))).toNat s0).1.length ((wBits (W (shlI 1 (W (u + 1)) - 2)) (W (u + 1)) ((W (u + 1))).toNat s0).1.map fun x => u8s x) 5), (5, .pin plp), (4, .cells [ii ma, ii mb] 75)] 7 rfl rfl
      ⟨.inr ⟨0, _, rfl, rfl, rfl, rfl⟩, .inr ⟨1, _, rfl, rfl, rfl, rfl⟩, .inr ⟨2, _, rfl, rfl, rfl, rfl⟩, .inr ⟨4, _, rfl, rfl, (fix_u8 _ _ _).symm, rfl⟩, .inl ⟨rfl, (fun q hq => by have inv : ∀ q ∈ ([0, 1, 2, 3] : List Nat), (rq [(3, 3), (3, 3)]) q ≠ 5 := (by decide); exact inv q hq)⟩, .inl ⟨rfl, (fun q hq => by have inv : ∀ q ∈ ([0, 1, 2, 3] : List Nat), (rq [(3, 3), (3, 3)]) q ≠ 4 := (by decide); exact inv q hq)⟩, trivial⟩ ?_
    refine Run.of_wpK (hc w L0 none (fun _ h => by cases h)) 1000 _ ?_
    conv => whnf
    refine Run.callR (vs := [ii (v), ii (((k : Nat) : Int))]) (caps := [.ptr 1 0, .ptr 2 0]) (caps2 := [.ptr 1 0, .ptr 2 0]) (wr_spec (wBits (W (shlI 1 (W (u + 1)) - 2)) (W (u + 1)) ((W (u + 1))).toNat s0) v ((k : Nat) : Int) _ (wBits_ok hs0 _) (by omega) (by omega) (by omega)) (ent _ _ Try.func59 (by kernel_rfl) rfl) rfl rfl rfl rfl rfl rfl [ii (v), ii (((k : Nat) : Int))] rfl (rq [(3, 6), (6, 3)]) rfl (fun q hq => by have inv : ∀ q, q < 4 → (rq [(3, 6), (6, 3)]) q < 7 := (by decide); exact inv q hq) (fun q hq j hj hne => by have inj : ∀ i, i < 4 → ∀ j, j < 4 → i ≠ j → (rq [(3, 6), (6, 3)]) i ≠ (rq [(3, 6), (6, 3)]) j := (by decide); exact inj q hq j hj hne) (by decide)
      ⟨⟨by omega, by simp [SObj.sc, SV.scs, SV.sc], ⟨_, rfl, Conv.refl _⟩, .inr (by simp), fun h => by cases h⟩, ⟨by omega, by simp [SObj.sc, SV.scs, SV.sc], ⟨_, rfl, Conv.refl _⟩, .inr (by simp), fun h => by cases h⟩, ⟨by omega, by simp [SObj.sc, SV.scs, SV.sc], ⟨_, rfl, Conv.refl _⟩, .inr (by simp), fun h => by cases h⟩, ⟨by omega, scs_u8 _ _, ⟨_, rfl, by rw [fix_u8]; exact Conv.refl _⟩, .inr (by simp), fun h => by cases h⟩, trivial⟩ (fun q hq => by have hq2 : q = 0 ∨ q = 1 ∨ q = 2 ∨ q = 3 := (by simpa using hq); rcases hq2 with rfl | rfl | rfl | rfl <;> exact ⟨by omega, _, rfl⟩) (.tup []) [(0, .cells [.opq 7] 22), (1, .cells [ii (wBits v ((k : Nat) : Int) (((k : Nat) : Int)).toNat (wBits (W (shlI 1 (W (u + 1)) - 2)) (W (u + 1)) ((W (u + 1))).toNat s0)).2] 3), (2, .cells [.ptr 0 0] 101), (7, .row 1 (wBits v ((k : Nat) : Int) (((k : Nat) : Int)).toNat (wBits (W (shlI 1 (W (u + 1)) - 2)) (W (u + 1)) ((W (u + 1))).toNat s0)).1.length ((wBits v ((k : Nat) : Int) (((k : Nat) : Int)).toNat (wBits (W (shlI 1 (W (u + 1)) - 2)) (W (u + 1)) ((W (u + 1))).toNat s0)).1.map fun x => u8s x) 5), (5, .pin plp), (4, .cells [ii ma, ii mb] 75)] 8 rfl rfl
      ⟨.inr ⟨0, _, rfl, rfl, rfl, rfl⟩, .inr ⟨1, _, rfl, rfl, rfl, rfl⟩, .inr ⟨2, _, rfl, rfl, rfl, rfl⟩, .inr ⟨4, _, rfl, rfl, (fix_u8 _ _ _).symm, rfl⟩, .inl ⟨rfl, (fun q hq => by have inv : ∀ q ∈ ([0, 1, 2, 3] : List Nat), (rq [(3, 6), (6, 3)]) q ≠ 5 := (by decide); exact inv q hq)⟩, .inl ⟨rfl, (fun q hq => by have inv : ∀ q ∈ ([0, 1, 2, 3] : List Nat), (rq [(3, 6), (6, 3)]) q ≠ 4 := (by decide); exact inv q hq)⟩, trivial⟩ ?_
    refine Run.of_wpK (hc w L0 none (fun _ h => by cases h)) 1000 _ ?_
    conv => whnf
    refine Run.callR (vs := [.ptr 0 0, ii v]) (caps := []) (caps2 := []) (learn_spec (ma, mb) v) (ent _ _ Try.func45 (by kernel_rfl) rfl) rfl rfl rfl rfl rfl rfl [.ptr 4 0, ii v] rfl (rq [(0, 4), (4, 0)]) rfl (fun q hq => by have inv : ∀ q, q < 1 → (rq [(0, 4), (4, 0)]) q < 8 := (by decide); exact inv q hq) (fun q hq j hj hne => by have inj : ∀ i, i < 1 → ∀ j, j < 1 → i ≠ j → (rq [(0, 4), (4, 0)]) i ≠ (rq [(0, 4), (4, 0)]) j := (by decide); exact inj q hq j hj hne) (by decide)
      ⟨⟨by omega, by simp [SObj.sc, SV.scs, SV.sc], ⟨_, rfl, Conv.refl _⟩, .inr (by simp), fun h => by cases h⟩, trivial⟩ (fun q hq => by have hq2 : q = 0 := (by simpa using hq); rcases hq2 with rfl <;> exact ⟨by omega, _, rfl⟩) (.tup []) [(4, .cells [ii (mLearn (ma, mb) v).1, ii (mLearn (ma, mb) v).2] 75), (0, .cells [.opq 7] 22), (1, .cells [ii (wBits v ((k : Nat) : Int) (((k : Nat) : Int)).toNat (wBits (W (shlI 1 (W (u + 1)) - 2)) (W (u + 1)) ((W (u + 1))).toNat s0)).2] 3), (2, .cells [.ptr 0 0] 101), (7, .row 1 (wBits v ((k : Nat) : Int) (((k : Nat) : Int)).toNat (wBits (W (shlI 1 (W (u + 1)) - 2)) (W (u + 1)) ((W (u + 1))).toNat s0)).1.length ((wBits v ((k : Nat) : Int) (((k : Nat) : Int)).toNat (wBits (W (shlI 1 (W (u + 1)) - 2)) (W (u + 1)) ((W (u + 1))).toNat s0)).1.map fun x => u8s x) 5), (5, .pin plp)] 8 rfl rfl
      ⟨.inr ⟨0, _, rfl, rfl, rfl, rfl⟩, .inl ⟨rfl, (fun q hq => by have inv : ∀ q ∈ ([0] : List Nat), (rq [(0, 4), (4, 0)]) q ≠ 0 := (by decide); exact inv q hq)⟩, .inl ⟨rfl, (fun q hq => by have inv : ∀ q ∈ ([0] : List Nat), (rq [(0, 4), (4, 0)]) q ≠ 1 := (by decide); exact inv q hq)⟩, .inl ⟨rfl, (fun q hq => by have inv : ∀ q ∈ ([0] : List Nat), (rq [(0, 4), (4, 0)]) q ≠ 2 := (by decide); exact inv q hq)⟩, .inl ⟨rfl, (fun q hq => by have inv : ∀ q ∈ ([0] : List Nat), (rq [(0, 4), (4, 0)]) q ≠ 7 := (by decide); exact inv q hq)⟩, .inl ⟨rfl, (fun q hq => by have inv : ∀ q ∈ ([0] : List Nat), (rq [(0, 4), (4, 0)]) q ≠ 5 := (by decide); exact inv q hq)⟩, trivial⟩ ?_
    refine Run.of_wpK (hc w L0 none (fun _ h => by cases h)) 1000 _ ?_
    conv => whnf
    rw [← hRR, e0]
    exact SpecR.intro 7 (by decide) (fun p hp => by have := hLB p hp; omega) (by decide) hcov rfl rfl trivial ⟨⟨rfl, by omega, by simp [SObj.sc, SV.scs, SV.sc]⟩, ⟨rfl, by omega, by simp [SObj.sc, SV.scs, SV.sc]⟩, ⟨rfl, by omega, by simp [SObj.sc, SV.scs, SV.sc]⟩, ⟨congrArg some (fix_u8 _ _ _).symm, by omega, scs_u8 _ _⟩, ⟨rfl, by omega, by simp [SObj.sc, SV.scs, SV.sc]⟩, trivial⟩
  case false =>
    have e1 := of_decide_eq_false e1
    rw [if_neg e1] at e0
    conv => whnf
    refine Run.callR (vs := [ii (16777215), ii ((24 : Int))]) (caps := [.ptr 1 0, .ptr 2 0]) (caps2 := [.ptr 1 0, .ptr 2 0]) (wr_spec s0 16777215 (24 : Int) _ hs0 (by omega) (by decide) (by decide)) (ent _ _ Try.func59 (by kernel_rfl) rfl) rfl rfl rfl rfl rfl rfl [ii (16777215), ii ((24 : Int))] rfl (rq [(3, 3), (3, 3)]) rfl (fun q hq => by have inv : ∀ q, q < 4 → (rq [(3, 3), (3, 3)]) q < 6 := (by decide); exact inv q hq) (fun q hq j hj hne => by have inj : ∀ i, i < 4 → ∀ j, j < 4 → i ≠ j → (rq [(3, 3), (3, 3)]) i ≠ (rq [(3, 3), (3, 3)]) j := (by decide); exact inj q hq j hj hne) (by decide)
      ⟨⟨by omega, by simp [SObj.sc, SV.scs, SV.sc], ⟨_, rfl, Conv.refl _⟩, .inr (by simp), fun h => by cases h⟩, ⟨by omega, by simp [SObj.sc, SV.scs, SV.sc], ⟨_, rfl, Conv.refl _⟩, .inr (by simp), fun h => by cases h⟩, ⟨by omega, by simp [SObj.sc, SV.scs, SV.sc], ⟨_, rfl, Conv.refl _⟩, .inr (by simp), fun h => by cases h⟩, ⟨by omega, scs_u8 _ _, ⟨_, rfl, by rw [fix_u8]; exact Conv.refl _⟩, .inr (by simp), fun h => by cases h⟩, trivial⟩ (fun q hq => by have hq2 : q = 0 ∨ q = 1 ∨ q = 2 ∨ q = 3 := (by simpa using hq); rcases hq2 with rfl | rfl | rfl | rfl <;> exact ⟨by omega, _, rfl⟩) (.tup []) [(0, .cells [.opq 6] 22), (1, .cells [ii (wBits 16777215 (24 : Int) ((24 : Int)).toNat s0).2] 3), (2, .cells [.ptr 0 0] 101), (6, .row 1 (wBits 16777215 (24 : Int) ((24 : Int)).toNat s0).1.length ((wBits 16777215 (24 : Int) ((24 : Int)).toNat s0).1.map fun x => u8s x) 5), (5, .pin plp), (4, .cells [ii ma, ii mb] 75)] 7 rfl rfl
      ⟨.inr ⟨0, _, rfl, rfl, rfl, rfl⟩, .inr ⟨1, _, rfl, rfl, rfl, rfl⟩, .inr ⟨2, _, rfl, rfl, rfl, rfl⟩, .inr ⟨4, _, rfl, rfl, (fix_u8 _ _ _).symm, rfl⟩, .inl ⟨rfl, (fun q hq => by have inv : ∀ q ∈ ([0, 1, 2, 3] : List Nat), (rq [(3, 3), (3, 3)]) q ≠ 5 := (by decide); exact inv q hq)⟩, .inl ⟨rfl, (fun q hq => by have inv : ∀ q ∈ ([0, 1, 2, 3] : List Nat), (rq [(3, 3), (3, 3)]) q ≠ 4 := (by decide); exact inv q hq)⟩, trivial⟩ ?_
    refine Run.of_wpK (hc w L0 none (fun _ h => by cases h)) 1000 _ ?_
    conv => whnf
    refine Run.callR (vs := [ii (v), ii ((31 : Int))]) (caps := [.ptr 1 0, .ptr 2 0]) (caps2 := [.ptr 1 0, .ptr 2 0]) (wr_spec (wBits 16777215 (24 : Int) ((24 : Int)).toNat s0) v (31 : Int) _ (wBits_ok hs0 _) (by omega) (by decide) (by decide)) (ent _ _ Try.func59 (by kernel_rfl) rfl) rfl rfl rfl rfl rfl rfl [ii (v), ii ((31 : Int))] rfl (rq [(3, 6), (6, 3)]) rfl (fun q hq => by have inv : ∀ q, q < 4 → (rq [(3, 6), (6, 3)]) q < 7 := (by decide); exact inv q hq) (fun q hq j hj hne => by have inj : ∀ i, i < 4 → ∀ j, j < 4 → i ≠ j → (rq [(3, 6), (6, 3)]) i ≠ (rq [(3, 6), (6, 3)]) j := (by decide); exact inj q hq j hj hne) (by decide)
      ⟨⟨by omega, by simp [SObj.sc, SV.scs, SV.sc], ⟨_, rfl, Conv.refl _⟩, .inr (by simp), fun h => by cases h⟩, ⟨by omega, by simp [SObj.sc, SV.scs, SV.sc], ⟨_, rfl, Conv.refl _⟩, .inr (by simp), fun h => by cases h⟩, ⟨by omega, by simp [SObj.sc, SV.scs, SV.sc], ⟨_, rfl, Conv.refl _⟩, .inr (by simp), fun h => by cases h⟩, ⟨by omega, scs_u8 _ _, ⟨_, rfl, by rw [fix_u8]; exact Conv.refl _⟩, .inr (by simp), fun h => by cases h⟩, trivial⟩ (fun q hq => by have hq2 : q = 0 ∨ q = 1 ∨ q = 2 ∨ q = 3 := (by simpa using hq); rcases hq2 with rfl | rfl | rfl | rfl <;> exact ⟨by omega, _, rfl⟩) (.tup []) [(0, .cells [.opq 7] 22), (1, .cells [ii (wBits v (31 : Int) ((31 : Int)).toNat (wBits 16777215 (24 : Int) ((24 : Int)).toNat s0)).2] 3), (2, .cells [.ptr 0 0] 101), (7, .row 1 (wBits v (31 : Int) ((31 : Int)).toNat (wBits 16777215 (24 : Int) ((24 : Int)).toNat s0)).1.length ((wBits v (31 : Int) ((31 : Int)).toNat (wBits 16777215 (24 : Int) ((24 : Int)).toNat s0)).1.map fun x => u8s x) 5), (5, .pin plp), (4, .cells [ii ma, ii mb] 75)] 8 rfl rfl
      ⟨.inr ⟨0, _, rfl, rfl, rfl, rfl⟩, .inr ⟨1, _, rfl, rfl, rfl, rfl⟩, .inr ⟨2, _, rfl, rfl, rfl, rfl⟩, .inr ⟨4, _, rfl, rfl, (fix_u8 _ _ _).symm, rfl⟩, .inl ⟨rfl, (fun q hq => by have inv : ∀ q ∈ ([0, 1, 2, 3] : List Nat), (rq [(3, 6), (6, 3)]) q ≠ 5 := (by decide); exact inv q hq)⟩, .inl ⟨rfl, (fun q hq => by have inv : ∀ q ∈ ([0, 1, 2, 3] : List Nat), (rq [(3, 6), (6, 3)]) q ≠ 4 := (by decide); exact inv q hq)⟩, trivial⟩ ?_
    refine Run.of_wpK (hc w L0 none (fun _ h => by cases h)) 1000 _ ?_
    conv => whnf
    refine Run.callR (vs := [.ptr 0 0, ii v]) (caps := []) (caps2 := []) (learn_spec (ma, mb) v) (ent _ _ Try.func45 (by kernel_rfl) rfl) rfl rfl rfl rfl rfl rfl [.ptr 4 0, ii v] rfl (rq [(0, 4), (4, 0)]) rfl (fun q hq => by have inv : ∀ q, q < 1 → (rq [(0, 4), (4, 0)]) q < 8 := (by decide); exact inv q hq) (fun q hq j hj hne => by have inj : ∀ i, i < 1 → ∀ j, j < 1 → i ≠ j → (rq [(0, 4), (4, 0)]) i ≠ (rq [(0, 4), (4, 0)]) j := (by decide); exact inj q hq j hj hne) (by decide)
      ⟨⟨by omega, by simp [SObj.sc, SV.scs, SV.sc], ⟨_, rfl, Conv.refl _⟩, .inr (by simp), fun h => by cases h⟩, trivial⟩ (fun q hq => by have hq2 : q = 0 := (by simpa using hq); rcases hq2 with rfl <;> exact ⟨by omega, _, rfl⟩) (.tup []) [(4, .cells [ii (mLearn (ma, mb) v).1, ii (mLearn (ma, mb) v).2] 75), (0, .cells [.opq 7] 22), (1, .cells [ii (wBits v (31 : Int) ((31 : Int)).toNat (wBits 16777215 (24 : Int) ((24 : Int)).toNat s0)).2] 3), (2, .cells [.ptr 0 0] 101), (7, .row 1 (wBits v (31 : Int) ((31 : Int)).toNat (wBits 16777215 (24 : Int) ((24 : Int)).toNat s0)).1.length ((wBits v (31 : Int) ((31 : Int)).toNat (wBits 16777215 (24 : Int) ((24 : Int)).toNat s0)).1.map fun x => u8s x) 5), (5, .pin plp)] 8 rfl rfl
      ⟨.inr ⟨0, _, rfl, rfl, rfl, rfl⟩, .inl ⟨rfl, (fun q hq => by have inv : ∀ q ∈ ([0] : List Nat), (rq [(0, 4), (4, 0)]) q ≠ 0 := (by decide); exact inv q hq)⟩, .inl ⟨rfl, (fun q hq => by have inv : ∀ q ∈ ([0] : List Nat), (rq [(0, 4), (4, 0)]) q ≠ 1 := (by decide); exact inv q hq)⟩, .inl ⟨rfl, (fun q hq => by have inv : ∀ q ∈ ([0] : List Nat), (rq [(0, 4), (4, 0)]) q ≠ 2 := (by decide); exact inv q hq)⟩, .inl ⟨rfl, (fun q hq => by have inv : ∀ q ∈ ([0] : List Nat), (rq [(0, 4), (4, 0)]) q ≠ 7 := (by decide); exact inv q hq)⟩, .inl ⟨rfl, (fun q hq => by have inv : ∀ q ∈ ([0] : List Nat), (rq [(0, 4), (4, 0)]) q ≠ 5 := (by decide); exact inv q hq)⟩, trivial⟩ ?_
    refine Run.of_wpK (hc w L0 none (fun _ h => by cases h)) 1000 _ ?_
    conv => whnf
    rw [← hRR, e0]
    exact SpecR.intro 7 (by decide) (fun p hp => by have := hLB p hp; omega) (by decide) hcov rfl rfl trivial ⟨⟨rfl, by omega, by simp [SObj.sc, SV.scs, SV.sc]⟩, ⟨rfl, by omega, by simp [SObj.sc, SV.scs, SV.sc]⟩, ⟨rfl, by omega, by simp [SObj.sc, SV.scs, SV.sc]⟩, ⟨congrArg some (fix_u8 _ _ _).symm, by omega, scs_u8 _ _⟩, ⟨rfl, by omega, by simp [SObj.sc, SV.scs, SV.sc]⟩, trivial⟩
theorem flat_u8 : ∀ l : List Int, l.flatMap (fun x : Int => [u8v x]) = l.map u8v
  | [] => rfl
  | a :: l => by rw [List.flatMap_cons, flat_u8 l]; rfl
theorem sums_run (v : Value) (l : List Int) (hl : l.length ≤ 100000000) (w : World) (hr : RowsAt w v 1 l.length (l.map u8v)) : Calls Try.prog 24 #[v] w fun e w' => e = .returned (.agg #[.int .u8 (sumB l).1, .int .u8 (sumB l).2]) ∧ Ext w w' := by
  have hc : ∀ w L' rd, (∀ p, rd = some p → p ∈ L') → Cx.ok ⟨Try.prog, tab, [], 24, Try.f24, [], w, L', rd⟩ := fun w L' rd h => ⟨tab_ok, trivial, Try.func24, mixed, h⟩
  have hrows : AllP (fun x : Value × Nat × Nat × List Value => RowsAt w x.1 x.2.1 x.2.2.1 x.2.2.2) [(v, 1, l.length, l.map u8v)] := ⟨hr, trivial⟩
  refine Run.startW (tab := tab) (pf := []) (cuts := []) Try.func24 rfl _ hrows [.opq 0] [v] [(0, .rwin 1 l.length (l.map u8v))] 1 rfl rfl (by show [(SV.opq 0).conc _] = _; rw [conc_rows hrows (k := 0) rfl]) (by simp [SV.scs, SV.sc]) rfl (Run.of_wpK (hc w [] none (fun _ h => by cases h)) 100 _ ?_)
  conv => whnf
  refine Run.trim (T' := [(3, ii (sS l (0 : Nat)).1), (4, ii (sS l (0 : Nat)).2), (7, .opq 0), (8, ii (l.length : Int)), (9, ii (((0 : Nat) : Nat) : Int)), (2, .ptr 1 0)]) (M' := [(0, .rwin 1 l.length (l.map u8v)), (1, .cells [u8s 0, u8s 0] 39)]) 2 ⟨⟨rfl, trivial⟩, ⟨rfl, trivial⟩, ⟨rfl, (show 0 < 2 by decide)⟩, ⟨rfl, trivial⟩, ⟨rfl, trivial⟩, ⟨rfl, (show 1 < 2 by decide)⟩, trivial⟩ ⟨⟨rfl, by omega, trivial⟩, ⟨rfl, by omega, by simp [SObj.sc, SV.scs, SV.sc]⟩, trivial⟩ (fun p hp => by cases hp) ?_
  refine Run.upToJ (T := fun i => [(3, ii (sS l i).1), (4, ii (sS l i).2), (7, .opq 0), (8, ii (l.length : Int)), (9, ii ((i : Nat) : Int)), (2, .ptr 1 0)]) (M := fun i => [(0, .rwin 1 l.length (l.map u8v)), (1, .cells [u8s 0, u8s 0] 39)]) (fun _ => True) (l.length) (trivial) ?_ ?_
  · intro i hi hJ ih
    refine Run.of_wpK (hc w [] none (fun _ h => by cases h)) 1000 _ ?_
    conv => whnf
    rw [decide_eq_true (show ((i : Nat) : Int) < (l.length : Int) by omega)]
    conv => whnf
    refine ⟨by omega, ?_⟩
    conv => whnf
    rw [opF_loadWf (f := fun x : Int => [u8v x]) (l := l) (c := u8v (l.getD i 0)) i 0 rfl rfl (by rw [flat_u8 l]; rfl) rfl (fun _ => rfl) (by rw [idx_nat]; rfl) hi (by decide) (congrArg (fun x => some (u8v x)) (show l[i] = l.getD i 0 by simp [List.getD_eq_getElem?_getD, hi]))]
    conv => whnf
    refine ⟨by decide, ?_⟩
    conv => whnf
    refine ⟨by decide, ?_⟩
    conv => whnf
    exact Run.trim (T' := [(3, ii (sS l (i + 1 : Nat)).1), (4, ii (sS l (i + 1 : Nat)).2), (7, .opq 0), (8, ii (l.length : Int)), (9, ii (((i + 1 : Nat) : Nat) : Int)), (2, .ptr 1 0)]) (M' := [(0, .rwin 1 l.length (l.map u8v)), (1, .cells [u8s 0, u8s 0] 39)]) 2 ⟨⟨rfl, trivial⟩, ⟨rfl, trivial⟩, ⟨rfl, (show 0 < 2 by decide)⟩, ⟨rfl, trivial⟩, ⟨congrArg some (congrArg ii (wrap_succ (by omega))), trivial⟩, ⟨rfl, (show 1 < 2 by decide)⟩, trivial⟩ ⟨⟨rfl, by omega, trivial⟩, ⟨rfl, by omega, by simp [SObj.sc, SV.scs, SV.sc]⟩, trivial⟩ (fun p hp => by cases hp) (ih (trivial))
  · intro hJ
    refine Run.of_wpK (hc w [] none (fun _ h => by cases h)) 1000 _ ?_
    conv => whnf
    rw [decide_eq_false (show ¬ ((l.length : Nat) : Int) < (l.length : Int) by omega)]
    conv => whnf
    refine Run.buildArr (hc w [] none (fun _ h => by cases h)) [u8s (sumB l).1, u8s (sumB l).2] rfl rfl rfl rfl rfl rfl rfl rfl ?_
    refine Run.of_wpK (hc w [] none (fun _ h => by cases h)) 1000 _ ?_
    conv => whnf
    exact ⟨fun ρ w' hW _ => ⟨rfl, hW.toExt⟩⟩
theorem first_pure : Pure Try.prog 26 (plainF fun l => match l with | [] => some (.agg [ii 4, ii 1]) | _ => none) := PureV.lift {
  ent := ent _ _ Try.func26 (by kernel_rfl) rfl
  sc := fun S args v hv _ => by
    split at hv
    · obtain rfl := Option.some.inj hv; exact ⟨trivial, trivial, trivial⟩
    · cases hv
  run := fun ρ args v w hv => by
    split at hv
    · obtain rfl := Option.some.inj hv
      refine Run.start0 (tab := tab) (pf := []) (cuts := []) mixed tab_ok trivial Try.func26 rfl [] 100 (by simp [SV.scs]) rfl ?_
      conv => whnf
      exact ⟨fun ρ w' hW _ => ⟨rfl, hW.toExt⟩⟩
    · cases hv }
/-- A writer is made. -/
theorem writer_spec : BSpec Try.prog 41 [.ptr 0 0] [] 1 [] (.fn 59 [.ptr 2 0, .ptr 1 0]) [(1, .cells [.ptr 0 0] 101), (2, .cells [ii 0] 3)] 3 := by
  have hc : ∀ w L' rd, (∀ p, rd = some p → p ∈ L') → Cx.ok ⟨Try.prog, tab, [], 41, Try.f41, [], w, L', rd⟩ := fun w L' rd h => ⟨tab_ok, trivial, Try.func41, mixed, h⟩
  refine BSpec.start (tab := tab) (pf := []) (cuts := []) Try.func41 rfl ⟨(show 0 < 1 by decide), trivial⟩ rfl fun w L0 plp hL hLB hcov => Run.of_wpK (hc w L0 none (fun _ h => by cases h)) 100 _ ?_
  generalize hRR : SpecR _ _ _ _ _ _ = RR
  conv => whnf
  rw [← hRR]
  exact SpecR.intro 2 (by decide) hLB (by decide) hcov rfl rfl ⟨(show 2 < 3 by decide), (show 1 < 3 by decide), trivial⟩ ⟨⟨rfl, by omega, by simp [SObj.sc, SV.scs, SV.sc]⟩, ⟨rfl, by omega, by simp [SObj.sc, SV.scs, SV.sc]⟩, trivial⟩
theorem concs_u8 (ρ : Env) (l : List Int) : SV.concs ρ (l.map fun x => u8s x) = l.map u8v := by
  induction l with
  | nil => rfl
  | cons a l ih => show _ :: SV.concs ρ (l.map fun x => u8s x) = _; rw [ih]; rfl
theorem pack_run (v : Value) (l : List Evt) (hl : PackOK l) (w : World) (hr : RowsAt w v 2 l.length (l.flatMap Evt.vals)) : Calls Try.prog 23 #[v] w fun e w' => ∃ u, e = .returned u ∧ Ext w w' ∧ w'.ownsRow w.heap.size 5 1 u (packB l).length ((packB l).map u8v) := by
  have hll := hl.len
  have hc : ∀ w L' rd, (∀ p, rd = some p → p ∈ L') → Cx.ok ⟨Try.prog, tab, [(26, plainF fun l => match l with | [] => some (.agg [ii 4, ii 1]) | _ => none), (2000, fun _ _ => none)], 23, Try.f23, [], w, L', rd⟩ := fun w L' rd h => ⟨tab_ok, ⟨first_pure, trivial, trivial⟩, Try.func23, mixed, h⟩
  have hrows : AllP (fun x : Value × Nat × Nat × List Value => RowsAt w x.1 x.2.1 x.2.2.1 x.2.2.2) [(v, 2, l.length, l.flatMap Evt.vals)] := ⟨hr, trivial⟩
  refine Run.startW (tab := tab) (pf := [(26, plainF fun l => match l with | [] => some (.agg [ii 4, ii 1]) | _ => none), (2000, fun _ _ => none)]) (cuts := []) Try.func23 rfl _ hrows [.opq 0] [v] [(0, .rwin 2 l.length (l.flatMap Evt.vals))] 1 rfl rfl (by show [(SV.opq 0).conc _] = _; rw [conc_rows hrows (k := 0) rfl]) (by simp [SV.scs, SV.sc]) rfl (Run.of_wpK (hc w [] none (fun _ h => by cases h)) 18 _ ?_)
  generalize hRR : (fun (e : Ending) (w' : World) => ∃ u, e = .returned u ∧ Ext w w' ∧ w'.ownsRow w.heap.size 5 1 u (packB l).length ((packB l).map u8v)) = RR
  conv => whnf
  refine ⟨by decide, ?_⟩
  conv => whnf
  refine ⟨by decide, ?_⟩
  conv => whnf
  refine Run.slcRowE (T' := [(0, .opq 0), (24, .opq 2)]) (M' := [(0, .rwin 2 l.length (l.flatMap Evt.vals))]) 1 1 5 ((hdr l.length).map fun x => u8s x) 5 rfl rfl (by decide) (AllP.mem ⟨.inl rfl, .inr ⟨rfl, rfl⟩, trivial⟩) (AllP.mem ⟨⟨rfl, by omega⟩, trivial⟩) ?_
  refine Run.of_wpK (hc w [] none (fun _ h => by cases h)) 1000 _ ?_
  conv => whnf
  refine Run.callR (vs := [.ptr 0 0]) (caps := []) (caps2 := []) writer_spec (ent _ _ Try.func41 (by kernel_rfl) rfl) rfl rfl rfl rfl rfl rfl [.ptr 3 0] rfl (rq [(0, 3), (3, 0)]) rfl (fun q hq => by have inv : ∀ q, q < 1 → (rq [(0, 3), (3, 0)]) q < 4 := (by decide); exact inv q hq) (fun q hq j hj hne => by have inj : ∀ i, i < 1 → ∀ j, j < 1 → i ≠ j → (rq [(0, 3), (3, 0)]) i ≠ (rq [(0, 3), (3, 0)]) j := (by decide); exact inj q hq j hj hne) (by decide)
    trivial (fun q hq => by cases hq) (.fn 59 [.ptr 5 0, .ptr 4 0]) [(4, .cells [.ptr 3 0] 101), (5, .cells [ii (pS l 0).1.2] 3), (0, .rwin 2 l.length (l.flatMap Evt.vals)), (2, .row 1 (pS l 0).1.1.length ((pS l 0).1.1.map fun x => u8s x) 5), (3, .cells [.opq 2] 22)] 6 rfl rfl
    ⟨.inr ⟨1, _, rfl, rfl, rfl, rfl⟩, .inr ⟨2, _, rfl, rfl, rfl, rfl⟩, .inl ⟨rfl, (fun q hq => by cases hq)⟩, .inl ⟨rfl, (fun q hq => by cases hq)⟩, .inl ⟨rfl, (fun q hq => by cases hq)⟩, trivial⟩ ?_
  refine Run.of_wpK (hc w [] none (fun _ h => by cases h)) 1000 _ ?_
  conv => whnf
  refine Run.trim (T' := [(3, .ptr 3 0), (4, .fn 59 [.ptr 5 0, .ptr 4 0]), (5, .ptr 6 0), (6, .ptr 7 0), (7, .ptr 8 0), (29, .opq 0), (30, ii (l.length : Int)), (31, ii ((0 : Nat) : Int))]) (M' := [(0, .rwin 2 l.length (l.flatMap Evt.vals)), (2, .row 1 (pS l 0).1.1.length ((pS l 0).1.1.map fun x => u8s x) 5), (3, .cells [.opq 2] 22), (4, .cells [.ptr 3 0] 101), (5, .cells [ii (pS l 0).1.2] 3), (6, .cells [ii (pS l 0).2.1.1, ii (pS l 0).2.1.2] 75), (7, .cells [ii (pS l 0).2.2.1, ii (pS l 0).2.2.2] 75), (8, .cells [ii (pBef l 0).tick, ii (pBef l 0).id] 45)]) 9 ⟨⟨rfl, (show 3 < 9 by decide)⟩, ⟨rfl, (show 5 < 9 by decide), (show 4 < 9 by decide), trivial⟩, ⟨rfl, (show 6 < 9 by decide)⟩, ⟨rfl, (show 7 < 9 by decide)⟩, ⟨rfl, (show 8 < 9 by decide)⟩, ⟨rfl, (show 0 < 9 by decide)⟩, ⟨rfl, trivial⟩, ⟨rfl, trivial⟩, trivial⟩ ⟨⟨rfl, by omega, trivial⟩, ⟨rfl, by omega, scs_u8 _ _⟩, ⟨rfl, by omega, by simp [SObj.sc, SV.scs, SV.sc]⟩, ⟨rfl, by omega, by simp [SObj.sc, SV.scs, SV.sc]⟩, ⟨rfl, by omega, by simp [SObj.sc, SV.scs, SV.sc]⟩, ⟨rfl, by omega, by simp [SObj.sc, SV.scs, SV.sc]⟩, ⟨rfl, by omega, by simp [SObj.sc, SV.scs, SV.sc]⟩, ⟨rfl, by omega, by simp [SObj.sc, SV.scs, SV.sc]⟩, trivial⟩ (fun p hp => by cases hp) ?_
  refine Run.upToJ (T := fun i => [(3, .ptr 3 0), (4, .fn 59 [.ptr 5 0, .ptr 4 0]), (5, .ptr 6 0), (6, .ptr 7 0), (7, .ptr 8 0), (29, .opq 0), (30, ii (l.length : Int)), (31, ii ((i : Nat) : Int))]) (M := fun i => [(0, .rwin 2 l.length (l.flatMap Evt.vals)), (2, .row 1 (pS l i).1.1.length ((pS l i).1.1.map fun x => u8s x) 5), (3, .cells [.opq 2] 22), (4, .cells [.ptr 3 0] 101), (5, .cells [ii (pS l i).1.2] 3), (6, .cells [ii (pS l i).2.1.1, ii (pS l i).2.1.2] 75), (7, .cells [ii (pS l i).2.2.1, ii (pS l i).2.2.2] 75), (8, .cells [ii (pBef l i).tick, ii (pBef l i).id] 45)]) (fun _ => True) l.length trivial ?_ ?_
  · intro i hi _ ih
    refine Run.of_wpK (hc w [] none (fun _ h => by cases h)) 1000 _ ?_
    conv => whnf
    rw [decide_eq_true (show ((i : Nat) : Int) < (l.length : Int) by omega)]
    conv => whnf
    refine ⟨by omega, ?_⟩
    conv => whnf
    rw [opF_loadW (f := Evt.vals) (l := l) i rfl rfl rfl rfl rfl Evt.vlen (by rw [idx_nat]) hi]
    conv => whnf
    have hgi : l.getD i evt0 = l[i] := by simp [List.getD_eq_getElem?_getD, hi]
    have hgap := hl.gap i hi
    have hplc := hl.plc i hi
    have hpo := pS_ok hl i (by omega)
    have hg0 : pGap l i = if 0 < i then W (l[i].tick - (pBef l i).tick) else l[i].tick := by unfold pGap; rw [hgi]
    have hp0 : pPlc l i = if l[i].tick = (pBef l i).tick then W (l[i].id - W ((pBef l i).id + 1)) else l[i].id := by unfold pPlc; rw [hgi]
    have hsucc : pS l (i + 1) = (mWrite (pS l i).2.2 (pPlc l i) (mWrite (pS l i).2.1 (pGap l i) (pS l i).1), mLearn (pS l i).2.1 (pGap l i), mLearn (pS l i).2.2 (pPlc l i)) := rfl
    have hbs : pBef l (i + 1) = l[i] := hgi
    obtain ⟨b, hb⟩ : ∃ b, pBef l i = b := ⟨_, rfl⟩
    obtain ⟨p, hp⟩ : ∃ p, pS l i = p := ⟨_, rfl⟩
    rw [hb] at hg0 hp0
    rw [hp] at hpo hsucc
    rw [hb, hp]
    refine Run.draw (hc w [] none (fun _ h => by cases h)) 5 ?_
    conv => whnf
    refine ⟨by kernel_rfl, ?_⟩
    refine Run.of_wpK (hc w [] none (fun _ h => by cases h)) 1000 _ ?_
    conv => whnf
    apply joinN (c := ⟨Try.prog, tab, [(26, plainF fun l => match l with | [] => some (.agg [ii 4, ii 1]) | _ => none), (2000, fun _ _ => none)], 23, Try.f23, [], w, [], none⟩) (R := RR) [(3, .ptr 3 0), (4, .fn 59 [.ptr 5 0, .ptr 4 0]), (5, .ptr 6 0), (6, .ptr 7 0), (7, .ptr 8 0), (29, .opq 0), (30, ii (l.length : Int)), (31, ii ((i : Nat) : Int)), (9, .ptr 9 0), (10, ii (pGap l i)), (11, ii (pPlc l i)), (56, ii (pGap l i)), (57, .fn 59 [.ptr 5 0, .ptr 4 0])] [(0, .rwin 2 l.length (l.flatMap Evt.vals)), (2, .row 1 p.1.1.length (p.1.1.map fun x => u8s x) 5), (3, .cells [.opq 2] 22), (4, .cells [.ptr 3 0] 101), (5, .cells [ii p.1.2] 3), (6, .cells [ii p.2.1.1, ii p.2.1.2] 75), (7, .cells [ii p.2.2.1, ii p.2.2.2] 75), (8, .cells [ii b.tick, ii b.id] 45), (9, .cells [ii l[i].tick, ii l[i].id] 45)] 10
    · intro hnext
      cases e1 : decide ((0 : Int) < ((i : Nat) : Int))
      case' true => rw [if_pos (by have := of_decide_eq_true e1; omega)] at hg0
      case' false => rw [if_neg (by have := of_decide_eq_false e1; omega)] at hg0
      all_goals
        conv => whnf
        cases e2 : l[i].tick == b.tick
        case' true => rw [if_pos (by simpa using e2)] at hp0
        case' false => rw [if_neg (by simpa using e2)] at hp0
        all_goals
          conv => whnf
          exact Run.trim (T' := [(3, .ptr 3 0), (4, .fn 59 [.ptr 5 0, .ptr 4 0]), (5, .ptr 6 0), (6, .ptr 7 0), (7, .ptr 8 0), (29, .opq 0), (30, ii (l.length : Int)), (31, ii ((i : Nat) : Int)), (9, .ptr 9 0), (10, ii (pGap l i)), (11, ii (pPlc l i)), (56, ii (pGap l i)), (57, .fn 59 [.ptr 5 0, .ptr 4 0])]) (M' := [(0, .rwin 2 l.length (l.flatMap Evt.vals)), (2, .row 1 p.1.1.length (p.1.1.map fun x => u8s x) 5), (3, .cells [.opq 2] 22), (4, .cells [.ptr 3 0] 101), (5, .cells [ii p.1.2] 3), (6, .cells [ii p.2.1.1, ii p.2.1.2] 75), (7, .cells [ii p.2.2.1, ii p.2.2.2] 75), (8, .cells [ii b.tick, ii b.id] 45), (9, .cells [ii l[i].tick, ii l[i].id] 45)]) 10 ⟨⟨rfl, (show 3 < 10 by decide)⟩, ⟨rfl, (show 5 < 10 by decide), (show 4 < 10 by decide), trivial⟩, ⟨rfl, (show 6 < 10 by decide)⟩, ⟨rfl, (show 7 < 10 by decide)⟩, ⟨rfl, (show 8 < 10 by decide)⟩, ⟨rfl, (show 0 < 10 by decide)⟩, ⟨rfl, trivial⟩, ⟨rfl, trivial⟩, ⟨rfl, (show 9 < 10 by decide)⟩, ⟨by rw [hg0]; rfl, trivial⟩, ⟨by rw [hp0]; rfl, trivial⟩, ⟨by rw [hg0]; rfl, trivial⟩, ⟨rfl, (show 5 < 10 by decide), (show 4 < 10 by decide), trivial⟩, trivial⟩ ⟨⟨rfl, by omega, trivial⟩, ⟨rfl, by omega, scs_u8 _ _⟩, ⟨rfl, by omega, by simp [SObj.sc, SV.scs, SV.sc]⟩, ⟨rfl, by omega, by simp [SObj.sc, SV.scs, SV.sc]⟩, ⟨rfl, by omega, by simp [SObj.sc, SV.scs, SV.sc]⟩, ⟨rfl, by omega, by simp [SObj.sc, SV.scs, SV.sc]⟩, ⟨rfl, by omega, by simp [SObj.sc, SV.scs, SV.sc]⟩, ⟨rfl, by omega, by simp [SObj.sc, SV.scs, SV.sc]⟩, ⟨rfl, by omega, by simp [SObj.sc, SV.scs, SV.sc]⟩, trivial⟩ (fun p hp => by cases hp) hnext
    · refine Run.callR (vs := [.ptr 4 0, ii (pGap l i), .fn 59 [.ptr 1 0, .ptr 2 0]]) (caps := []) (caps2 := []) (write_spec p.2.1 p.1 (pGap l i) _ hpo (by omega) hgap) (ent _ _ Try.func42 (by kernel_rfl) rfl) rfl rfl rfl rfl rfl rfl [.ptr 6 0, ii (pGap l i), .fn 59 [.ptr 5 0, .ptr 4 0]] rfl (rq [(0, 3), (1, 5), (2, 4), (3, 2), (4, 6)]) rfl (fun q hq => by have inv : ∀ q, q < 5 → (rq [(0, 3), (1, 5), (2, 4), (3, 2), (4, 6)]) q < 10 := (by decide); exact inv q hq) (fun q hq j hj hne => by have inj : ∀ i, i < 5 → ∀ j, j < 5 → i ≠ j → (rq [(0, 3), (1, 5), (2, 4), (3, 2), (4, 6)]) i ≠ (rq [(0, 3), (1, 5), (2, 4), (3, 2), (4, 6)]) j := (by decide); exact inj q hq j hj hne) (by decide)
        ⟨⟨by omega, by simp [SObj.sc, SV.scs, SV.sc], ⟨_, rfl, Conv.refl _⟩, .inr (by simp), fun h => by cases h⟩, ⟨by omega, by simp [SObj.sc, SV.scs, SV.sc], ⟨_, rfl, Conv.refl _⟩, .inr (by simp), fun h => by cases h⟩, ⟨by omega, by simp [SObj.sc, SV.scs, SV.sc], ⟨_, rfl, Conv.refl _⟩, .inr (by simp), fun h => by cases h⟩, ⟨by omega, scs_u8 _ _, ⟨_, rfl, by rw [fix_u8]; exact Conv.refl _⟩, .inr (by simp), fun h => by cases h⟩, ⟨by omega, by simp [SObj.sc, SV.scs, SV.sc], ⟨_, rfl, Conv.refl _⟩, .inr (by simp), fun h => by cases h⟩, trivial⟩ (fun q hq => by have hq2 : q = 0 ∨ q = 1 ∨ q = 2 ∨ q = 3 ∨ q = 4 := (by simpa using hq); rcases hq2 with rfl | rfl | rfl | rfl | rfl <;> exact ⟨by omega, _, rfl⟩) (.tup []) [(10, .row 1 (mWrite p.2.1 (pGap l i) p.1).1.length ((mWrite p.2.1 (pGap l i) p.1).1.map fun x => u8s x) 5), (0, .rwin 2 l.length (l.flatMap Evt.vals)), (3, .cells [.opq 10] 22), (4, .cells [.ptr 3 0] 101), (5, .cells [ii (mWrite p.2.1 (pGap l i) p.1).2] 3), (6, .cells [ii (mLearn p.2.1 (pGap l i)).1, ii (mLearn p.2.1 (pGap l i)).2] 75), (7, .cells [ii p.2.2.1, ii p.2.2.2] 75), (8, .cells [ii b.tick, ii b.id] 45), (9, .cells [ii l[i].tick, ii l[i].id] 45)] 11 rfl rfl
        ⟨.inr ⟨5, _, rfl, rfl, (fix_u8 _ _ _).symm, rfl⟩, .inl ⟨rfl, (fun q hq => by have inv : ∀ q ∈ ([0, 1, 2, 3, 4] : List Nat), (rq [(0, 3), (1, 5), (2, 4), (3, 2), (4, 6)]) q ≠ 0 := (by decide); exact inv q hq)⟩, .inr ⟨0, _, rfl, rfl, rfl, rfl⟩, .inr ⟨2, _, rfl, rfl, rfl, rfl⟩, .inr ⟨1, _, rfl, rfl, rfl, rfl⟩, .inr ⟨4, _, rfl, rfl, rfl, rfl⟩, .inl ⟨rfl, (fun q hq => by have inv : ∀ q ∈ ([0, 1, 2, 3, 4] : List Nat), (rq [(0, 3), (1, 5), (2, 4), (3, 2), (4, 6)]) q ≠ 7 := (by decide); exact inv q hq)⟩, .inl ⟨rfl, (fun q hq => by have inv : ∀ q ∈ ([0, 1, 2, 3, 4] : List Nat), (rq [(0, 3), (1, 5), (2, 4), (3, 2), (4, 6)]) q ≠ 8 := (by decide); exact inv q hq)⟩, .inl ⟨rfl, (fun q hq => by have inv : ∀ q ∈ ([0, 1, 2, 3, 4] : List Nat), (rq [(0, 3), (1, 5), (2, 4), (3, 2), (4, 6)]) q ≠ 9 := (by decide); exact inv q hq)⟩, trivial⟩ ?_
      refine Run.of_wpK (hc w [] none (fun _ h => by cases h)) 1000 _ ?_
      conv => whnf
      refine Run.callR (vs := [.ptr 4 0, ii (pPlc l i), .fn 59 [.ptr 1 0, .ptr 2 0]]) (caps := []) (caps2 := []) (write_spec p.2.2 (mWrite p.2.1 (pGap l i) p.1) (pPlc l i) _ (mWrite_ok hpo hgap) (by omega) hplc) (ent _ _ Try.func42 (by kernel_rfl) rfl) rfl rfl rfl rfl rfl rfl [.ptr 7 0, ii (pPlc l i), .fn 59 [.ptr 5 0, .ptr 4 0]] rfl (rq [(0, 3), (1, 5), (2, 4), (3, 10), (4, 7)]) rfl (fun q hq => by have inv : ∀ q, q < 5 → (rq [(0, 3), (1, 5), (2, 4), (3, 10), (4, 7)]) q < 11 := (by decide); exact inv q hq) (fun q hq j hj hne => by have inj : ∀ i, i < 5 → ∀ j, j < 5 → i ≠ j → (rq [(0, 3), (1, 5), (2, 4), (3, 10), (4, 7)]) i ≠ (rq [(0, 3), (1, 5), (2, 4), (3, 10), (4, 7)]) j := (by decide); exact inj q hq j hj hne) (by decide)
        ⟨⟨by omega, by simp [SObj.sc, SV.scs, SV.sc], ⟨_, rfl, Conv.refl _⟩, .inr (by simp), fun h => by cases h⟩, ⟨by omega, by simp [SObj.sc, SV.scs, SV.sc], ⟨_, rfl, Conv.refl _⟩, .inr (by simp), fun h => by cases h⟩, ⟨by omega, by simp [SObj.sc, SV.scs, SV.sc], ⟨_, rfl, Conv.refl _⟩, .inr (by simp), fun h => by cases h⟩, ⟨by omega, scs_u8 _ _, ⟨_, rfl, by rw [fix_u8]; exact Conv.refl _⟩, .inr (by simp), fun h => by cases h⟩, ⟨by omega, by simp [SObj.sc, SV.scs, SV.sc], ⟨_, rfl, Conv.refl _⟩, .inr (by simp), fun h => by cases h⟩, trivial⟩ (fun q hq => by have hq2 : q = 0 ∨ q = 1 ∨ q = 2 ∨ q = 3 ∨ q = 4 := (by simpa using hq); rcases hq2 with rfl | rfl | rfl | rfl | rfl <;> exact ⟨by omega, _, rfl⟩) (.tup []) [(11, .row 1 (mWrite p.2.2 (pPlc l i) (mWrite p.2.1 (pGap l i) p.1)).1.length ((mWrite p.2.2 (pPlc l i) (mWrite p.2.1 (pGap l i) p.1)).1.map fun x => u8s x) 5), (0, .rwin 2 l.length (l.flatMap Evt.vals)), (3, .cells [.opq 11] 22), (4, .cells [.ptr 3 0] 101), (5, .cells [ii (mWrite p.2.2 (pPlc l i) (mWrite p.2.1 (pGap l i) p.1)).2] 3), (6, .cells [ii (mLearn p.2.1 (pGap l i)).1, ii (mLearn p.2.1 (pGap l i)).2] 75), (7, .cells [ii (mLearn p.2.2 (pPlc l i)).1, ii (mLearn p.2.2 (pPlc l i)).2] 75), (8, .cells [ii b.tick, ii b.id] 45), (9, .cells [ii l[i].tick, ii l[i].id] 45)] 12 rfl rfl
        ⟨.inr ⟨5, _, rfl, rfl, (fix_u8 _ _ _).symm, rfl⟩, .inl ⟨rfl, (fun q hq => by have inv : ∀ q ∈ ([0, 1, 2, 3, 4] : List Nat), (rq [(0, 3), (1, 5), (2, 4), (3, 10), (4, 7)]) q ≠ 0 := (by decide); exact inv q hq)⟩, .inr ⟨0, _, rfl, rfl, rfl, rfl⟩, .inr ⟨2, _, rfl, rfl, rfl, rfl⟩, .inr ⟨1, _, rfl, rfl, rfl, rfl⟩, .inl ⟨rfl, (fun q hq => by have inv : ∀ q ∈ ([0, 1, 2, 3, 4] : List Nat), (rq [(0, 3), (1, 5), (2, 4), (3, 10), (4, 7)]) q ≠ 6 := (by decide); exact inv q hq)⟩, .inr ⟨4, _, rfl, rfl, rfl, rfl⟩, .inl ⟨rfl, (fun q hq => by have inv : ∀ q ∈ ([0, 1, 2, 3, 4] : List Nat), (rq [(0, 3), (1, 5), (2, 4), (3, 10), (4, 7)]) q ≠ 8 := (by decide); exact inv q hq)⟩, .inl ⟨rfl, (fun q hq => by have inv : ∀ q ∈ ([0, 1, 2, 3, 4] : List Nat), (rq [(0, 3), (1, 5), (2, 4), (3, 10), (4, 7)]) q ≠ 9 := (by decide); exact inv q hq)⟩, trivial⟩ ?_
      refine Run.of_wpK (hc w [] none (fun _ h => by cases h)) 1000 _ ?_
      conv => whnf
      refine Run.trimQ (T' := [(3, .ptr 3 0), (4, .fn 59 [.ptr 5 0, .ptr 4 0]), (5, .ptr 6 0), (6, .ptr 7 0), (7, .ptr 8 0), (29, .opq 0), (30, ii (l.length : Int)), (31, ii ((i + 1 : Nat) : Int))]) (M' := [(0, .rwin 2 l.length (l.flatMap Evt.vals)), (2, .row 1 (pS l (i + 1)).1.1.length ((pS l (i + 1)).1.1.map fun x => u8s x) 5), (3, .cells [.opq 2] 22), (4, .cells [.ptr 3 0] 101), (5, .cells [ii (pS l (i + 1)).1.2] 3), (6, .cells [ii (pS l (i + 1)).2.1.1, ii (pS l (i + 1)).2.1.2] 75), (7, .cells [ii (pS l (i + 1)).2.2.1, ii (pS l (i + 1)).2.2.2] 75), (8, .cells [ii (pBef l (i + 1)).tick, ii (pBef l (i + 1)).id] 45)]) (rq [(2, 11), (11, 2)]) 9 ?_ ⟨⟨rfl, (show 3 < 9 by decide)⟩, ⟨rfl, (show 5 < 9 by decide), (show 4 < 9 by decide), trivial⟩, ⟨rfl, (show 6 < 9 by decide)⟩, ⟨rfl, (show 7 < 9 by decide)⟩, ⟨rfl, (show 8 < 9 by decide)⟩, ⟨rfl, (show 0 < 9 by decide)⟩, ⟨rfl, trivial⟩, ⟨congrArg some (congrArg ii (wrap_succ (by omega))), trivial⟩, trivial⟩ ⟨⟨rfl, by omega, trivial⟩, ⟨by rw [fix_u8, hsucc]; rfl, by omega, scs_u8 _ _⟩, ⟨rfl, by omega, by simp [SObj.sc, SV.scs, SV.sc]⟩, ⟨rfl, by omega, by simp [SObj.sc, SV.scs, SV.sc]⟩, ⟨by rw [hsucc]; rfl, by omega, by simp [SObj.sc, SV.scs, SV.sc]⟩, ⟨by rw [hsucc]; rfl, by omega, by simp [SObj.sc, SV.scs, SV.sc]⟩, ⟨by rw [hsucc]; rfl, by omega, by simp [SObj.sc, SV.scs, SV.sc]⟩, ⟨by rw [hbs]; rfl, by omega, by simp [SObj.sc, SV.scs, SV.sc]⟩, trivial⟩ (fun p hp => by cases hp) (ih trivial)
      intro i hi j hj hne he
      have inv : ∀ i, i < 9 → (rq [(2, 11), (11, 2)]) ((rq [(2, 11), (11, 2)]) i) = i := by decide
      exact hne (by rw [← inv i hi, he, inv j hj])

  · intro _
    refine Run.of_wpK (hc w [] none (fun _ h => by cases h)) 1000 _ ?_
    conv => whnf
    rw [decide_eq_false (show ¬ ((l.length : Nat) : Int) < (l.length : Int) by omega)]
    conv => whnf
    have hpo := pS_ok hl l.length (Nat.le_refl _)
    have hpk : packB l = (pS l l.length).1.1 ++ [(sumB (pS l l.length).1.1).1, (sumB (pS l l.length).1.1).2] := rfl
    obtain ⟨b, hb⟩ : ∃ b, (pS l l.length).1.1 = b := ⟨_, rfl⟩
    have hble := hpo.le
    rw [hb] at hpk hble
    rw [hb]
    refine Run.callE (g := 24) (vs := [.opq 2]) (caps := []) (.agg [u8s (sumB b).1, u8s (sumB b).2]) (fun ρ w1 hW => by
      have h8 := hW.rowsAtR (i := 2) rfl (by decide)
      rw [concs_u8] at h8
      exact sums_run _ b (by omega) w1 h8) (ent _ _ Try.func24 (by kernel_rfl) rfl) rfl rfl rfl rfl rfl rfl rfl ⟨trivial, trivial, trivial⟩ ?_
    refine Run.of_wpK (hc w [] none (fun _ h => by cases h)) 1000 _ ?_
    conv => whnf
    refine Run.draw (hc w [] none (fun _ h => by cases h)) 2 ?_
    conv => whnf
    refine ⟨by kernel_rfl, ?_⟩
    refine Run.of_wpK (hc w [] none (fun _ h => by cases h)) 1000 _ ?_
    conv => whnf
    refine ⟨by omega, ?_⟩
    conv => whnf
    rw [← hRR]
    refine ⟨fun ρ w' hW _ => ⟨_, rfl, hW.toExt, ?_⟩⟩
    have h8 := hW.ownsNew (i := 14) rfl (by decide)
    rw [concs_append, concs_u8] at h8
    rw [hpk, List.map_append, List.length_append]
    exact h8
/-- A reader is made. -/
theorem reader_spec (b : List Int) : BSpec Try.prog 25 [.opq 0] [(0, .rwin 1 b.length (b.map u8v))] 1 [] (.fn 43 [.ptr 2 0, .ptr 1 0]) [(1, .cells [.opq 0] 22), (2, .cells [ii 0] 3)] 3 := by
  have hc : ∀ w L' rd, (∀ p, rd = some p → p ∈ L') → Cx.ok ⟨Try.prog, tab, [], 25, Try.f25, [], w, L', rd⟩ := fun w L' rd h => ⟨tab_ok, trivial, Try.func25, mixed, h⟩
  refine BSpec.start (tab := tab) (pf := []) (cuts := []) Try.func25 rfl ⟨(show 0 < 1 by decide), trivial⟩ rfl fun w L0 plp hL hLB hcov => Run.of_wpK (hc w L0 none (fun _ h => by cases h)) 100 _ ?_
  generalize hRR : SpecR _ _ _ _ _ _ = RR
  conv => whnf
  rw [← hRR]
  exact SpecR.intro 2 (by decide) hLB (by decide) hcov rfl rfl ⟨(show 2 < 3 by decide), (show 1 < 3 by decide), trivial⟩ ⟨⟨rfl, by omega, by simp [SObj.sc, SV.scs, SV.sc]⟩, ⟨rfl, by omega, by simp [SObj.sc, SV.scs, SV.sc]⟩, trivial⟩
/-- Bits are read. -/
theorem rd_spec (b : List Int) (a n : Nat) (h : a + n ≤ 8 * b.length) (hb : b.length ≤ 4000000) : BSpec Try.prog 43 [ii (n : Int), .ptr 0 0, .ptr 1 0] [(0, .cells [ii (a : Int)] 3), (1, .cells [.opq 2] 22), (2, .rwin 1 b.length (b.map u8v))] 3 [0, 1] (.tup [ii (rTk b a n), .v (.bool true)]) [(0, .cells [ii ((a + n : Nat) : Int)] 3), (1, .cells [.opq 2] 22)] 3 := by
  have hc : ∀ w L' rd, (∀ p, rd = some p → p ∈ L') → Cx.ok ⟨Try.prog, tab, [], 43, Try.f43, [], w, L', rd⟩ := fun w L' rd h => ⟨tab_ok, trivial, Try.func43, mixed, h⟩
  refine BSpec.start (tab := tab) (pf := []) (cuts := []) Try.func43 rfl ⟨trivial, (show 0 < 3 by decide), (show 1 < 3 by decide), trivial⟩ rfl fun w L0 plp hL hLB hcov => Run.of_wpK (hc w L0 none (fun _ h => by cases h)) 100 _ ?_
  generalize hRR : SpecR _ _ _ _ _ _ = RR
  conv => whnf
  have hw1 : IntKind.i64.wrap ((a : Int) + (n : Int)) = ((a + n : Nat) : Int) := by rw [show (a : Int) + (n : Int) = ((a + n : Nat) : Int) by omega]; exact W_id (by omega) (by omega)
  have hw2 : IntKind.i64.wrap (8 * (b.length : Int)) = 8 * (b.length : Int) := W_id (by omega) (by omega)
  rw [hw1, hw2, decide_eq_false (show ¬ 8 * (b.length : Int) < ((a + n : Nat) : Int) by omega)]
  conv => whnf
  refine Run.trim (T' := [(1, .ptr 0 0), (2, .ptr 1 0), (6, ii (rTk b a (0 : Nat))), (14, ii (n : Int)), (15, ii (((0 : Nat) : Nat) : Int))]) (M' := [(3, .pin plp), (0, .cells [ii ((a + (0 : Nat) : Nat) : Int)] 3), (1, .cells [.opq 2] 22), (2, .rwin 1 b.length (b.map u8v))]) 4 ⟨⟨rfl, (show 0 < 4 by decide)⟩, ⟨rfl, (show 1 < 4 by decide)⟩, ⟨rfl, trivial⟩, ⟨rfl, trivial⟩, ⟨rfl, trivial⟩, trivial⟩ ⟨⟨rfl, by omega, fun p hp => Nat.lt_of_lt_of_le (hcov.1 p hp) (show 3 ≤ 4 by decide)⟩, ⟨rfl, by omega, by simp [SObj.sc, SV.scs, SV.sc]⟩, ⟨rfl, by omega, by simp [SObj.sc, SV.scs, SV.sc]⟩, ⟨rfl, by omega, trivial⟩, trivial⟩ (fun p hp => by have := hLB p hp; omega) ?_
  refine Run.upToJ (T := fun i => [(1, .ptr 0 0), (2, .ptr 1 0), (6, ii (rTk b a i)), (14, ii (n : Int)), (15, ii ((i : Nat) : Int))]) (M := fun i => [(3, .pin plp), (0, .cells [ii ((a + i : Nat) : Int)] 3), (1, .cells [.opq 2] 22), (2, .rwin 1 b.length (b.map u8v))]) (fun _ => True) (n) (trivial) ?_ ?_
  · intro i hi hJ ih
    refine Run.of_wpK (hc w L0 none (fun _ h => by cases h)) 1000 _ ?_
    conv => whnf
    rw [decide_eq_true (show ((i : Nat) : Int) < (n : Int) by omega)]
    conv => whnf
    have hk : (a + i) / 8 < b.length := by omega
    have hdv : IntKind.i64.wrap (((a + i : Nat) : Int).tdiv 8) = (((a + i) / 8 : Nat) : Int) := by
      rw [show ((a + i : Nat) : Int).tdiv 8 = (((a + i) / 8 : Nat) : Int) from rfl]
      exact W_id (by omega) (by omega)
    have hmd : ((a + i : Nat) : Int).tmod 8 = (((a + i) % 8 : Nat) : Int) := rfl
    have hsh : (0 : Int) ≤ IntKind.i64.wrap (7 - (((a + i) % 8 : Nat) : Int)) := by
      have : W (7 - (((a + i) % 8 : Nat) : Int)) = 7 - (((a + i) % 8 : Nat) : Int) := W_id (by omega) (by omega)
      show 0 ≤ W (7 - (((a + i) % 8 : Nat) : Int))
      omega
    refine Run.draw (hc w L0 none (fun _ h => by cases h)) 14 ?_
    rw [show upto 0 14 = upto 0 2 ++ (upto 2 3 ++ (upto 5 1 ++ (upto 6 1 ++ (upto 7 2 ++ (upto 9 2 ++ upto 11 3))))) from rfl]
    simp only [drawK_app]
    conv => whnf
    refine ⟨by decide, ?_⟩
    conv => whnf
    refine ⟨by decide, ?_⟩
    conv => whnf
    rw [hdv]
    refine ⟨by omega, ?_⟩
    conv => whnf
    rw [opF_loadWf (f := fun x : Int => [u8v x]) (l := b) (c := u8v (b.getD ((a + i) / 8) 0)) ((a + i) / 8) 0 rfl rfl (by rw [flat_u8 b]; rfl) rfl (fun _ => rfl) (by rw [idx_nat]; rfl) hk (by decide) (congrArg (fun x => some (u8v x)) (show b[(a + i) / 8] = b.getD ((a + i) / 8) 0 by simp [List.getD_eq_getElem?_getD, hk]))]
    conv => whnf
    refine ⟨by decide, ?_⟩
    conv => whnf
    rw [hmd]
    refine ⟨hsh, ?_⟩
    conv => whnf
    refine ⟨by kernel_rfl, ?_⟩
    refine Run.of_wpK (hc w L0 none (fun _ h => by cases h)) 1000 _ ?_
    conv => whnf
    exact Run.trim (T' := [(1, .ptr 0 0), (2, .ptr 1 0), (6, ii (rTk b a (i + 1 : Nat))), (14, ii (n : Int)), (15, ii (((i + 1 : Nat) : Nat) : Int))]) (M' := [(3, .pin plp), (0, .cells [ii ((a + (i + 1 : Nat) : Nat) : Int)] 3), (1, .cells [.opq 2] 22), (2, .rwin 1 b.length (b.map u8v))]) 4 ⟨⟨rfl, (show 0 < 4 by decide)⟩, ⟨rfl, (show 1 < 4 by decide)⟩, ⟨rfl, trivial⟩, ⟨rfl, trivial⟩, ⟨congrArg some (congrArg ii (wrap_succ (by omega))), trivial⟩, trivial⟩ ⟨⟨rfl, by omega, fun p hp => Nat.lt_of_lt_of_le (hcov.1 p hp) (show 3 ≤ 4 by decide)⟩, ⟨congrArg some (congrArg (fun x => SObj.cells [ii x] 3) (show IntKind.i64.wrap (((a + i : Nat) : Int) + 1) = ((a + (i + 1) : Nat) : Int) by rw [show ((a + i : Nat) : Int) + 1 = ((a + (i + 1) : Nat) : Int) by omega]; exact W_id (by omega) (by omega))), by omega, by simp [SObj.sc, SV.scs, SV.sc]⟩, ⟨rfl, by omega, by simp [SObj.sc, SV.scs, SV.sc]⟩, ⟨rfl, by omega, trivial⟩, trivial⟩ (fun p hp => by have := hLB p hp; omega) (ih (trivial))
  · intro hJ
    refine Run.of_wpK (hc w L0 none (fun _ h => by cases h)) 1000 _ ?_
    conv => whnf
    rw [decide_eq_false (show ¬ ((n : Nat) : Int) < (n : Int) by omega)]
    conv => whnf
    rw [← hRR]
    exact SpecR.intro 4 (by decide) hLB (by decide) hcov rfl rfl ⟨trivial, trivial, trivial⟩ ⟨⟨rfl, by omega, by simp [SObj.sc, SV.scs, SV.sc]⟩, ⟨rfl, by omega, by simp [SObj.sc, SV.scs, SV.sc]⟩, trivial⟩
/-- A number is read. -/
theorem read_spec (b : List Int) (m : Int × Int) (a q : Nat) (h : ReadOK b m a q) (hb : b.length ≤ 4000000) : BSpec Try.prog 27 [.ptr 3 0, .fn 43 [.ptr 0 0, .ptr 1 0]] [(0, .cells [ii (a : Int)] 3), (1, .cells [.opq 2] 22), (2, .rwin 1 b.length (b.map u8v)), (3, .cells [ii m.1, ii m.2] 75)] 4 [0, 1, 3] (.tup [ii (rVal b m a q), .v (.bool true)]) [(0, .cells [ii ((a + rC q + rN q (lowN m) : Nat) : Int)] 3), (1, .cells [.opq 2] 22), (3, .cells [ii (mLearn m (rVal b m a q)).1, ii (mLearn m (rVal b m a q)).2] 75)] 4 := by
  have hkle := lowN_le m
  obtain ⟨h24, hone, hzero, hfit⟩ := h
  unfold rVal
  obtain ⟨lf, hlf⟩ : ∃ f, lowN = f := ⟨_, rfl⟩
  have hlfp : Pure Try.prog 44 (plainF (FPP_v fun m => .int .i64 (lf m : Int))) := by rw [← hlf]; exact low_pure
  rw [hlf] at hkle hfit ⊢
  obtain ⟨ma, mb⟩ := m
  obtain ⟨k, hk⟩ : ∃ k, lf (ma, mb) = k := ⟨_, rfl⟩
  rw [hk] at hkle hfit ⊢
  have hc : ∀ w L' rd, (∀ p, rd = some p → p ∈ L') → Cx.ok ⟨Try.prog, tab, [(44, plainF (FPP_v fun m => .int .i64 (lf m : Int)))], 27, Try.f27, [], w, L', rd⟩ := fun w L' rd h => ⟨tab_ok, ⟨hlfp, trivial⟩, Try.func27, mixed, h⟩
  refine BSpec.start (tab := tab) (pf := [(44, plainF (FPP_v fun m => .int .i64 (lf m : Int)))]) (cuts := []) Try.func27 rfl ⟨(show 3 < 4 by decide), ⟨(show 0 < 4 by decide), (show 1 < 4 by decide), trivial⟩, trivial⟩ rfl fun w L0 plp hL hLB hcov => Run.of_wpK (hc w L0 none (fun _ h => by cases h)) 100 _ ?_
  generalize hRR : SpecR _ _ _ _ _ _ = RR
  conv => whnf
  rw [hk]
  conv => whnf
  refine Run.trim (T' := [(0, .ptr 3 0), (1, .fn 43 [.ptr 0 0, .ptr 1 0]), (6, ii ((k : Nat) : Int)), (7, ii (((0 : Nat) : Nat) : Int))]) (M' := [(4, .pin plp), (0, .cells [ii ((a + (0 : Nat) : Nat) : Int)] 3), (1, .cells [.opq 2] 22), (2, .rwin 1 b.length (b.map u8v)), (3, .cells [ii ma, ii mb] 75)]) 5 ⟨⟨rfl, (show 3 < 5 by decide)⟩, ⟨rfl, (show 0 < 5 by decide), (show 1 < 5 by decide), trivial⟩, ⟨rfl, trivial⟩, ⟨rfl, trivial⟩, trivial⟩ ⟨⟨rfl, by omega, fun p hp => Nat.lt_of_lt_of_le (hcov.1 p hp) (show 4 ≤ 5 by decide)⟩, ⟨rfl, by omega, by simp [SObj.sc, SV.scs, SV.sc]⟩, ⟨rfl, by omega, by simp [SObj.sc, SV.scs, SV.sc]⟩, ⟨rfl, by omega, trivial⟩, ⟨rfl, by omega, by simp [SObj.sc, SV.scs, SV.sc]⟩, trivial⟩ (fun p hp => by have := hLB p hp; omega) ?_
  refine Run.upToJ (T := fun i => [(0, .ptr 3 0), (1, .fn 43 [.ptr 0 0, .ptr 1 0]), (6, ii ((k : Nat) : Int)), (7, ii ((i : Nat) : Int))]) (M := fun i => [(4, .pin plp), (0, .cells [ii ((a + i : Nat) : Int)] 3), (1, .cells [.opq 2] 22), (2, .rwin 1 b.length (b.map u8v)), (3, .cells [ii ma, ii mb] 75)]) (fun _ => True) (q) (trivial) ?_ ?_
  · intro i hi hJ ih
    refine Run.of_wpK (hc w L0 none (fun _ h => by cases h)) 1000 _ ?_
    conv => whnf
    rw [decide_eq_true (show ((i : Nat) : Int) < (24 : Int) by omega)]
    conv => whnf
    refine Run.callR (vs := [ii ((1 : Nat) : Int)]) (caps := [.ptr 0 0, .ptr 1 0]) (caps2 := [.ptr 0 0, .ptr 1 0]) (rd_spec b (a + i) (1) (by unfold rC rN at hfit; split at hfit <;> omega) hb) (ent _ _ Try.func43 (by kernel_rfl) rfl) rfl rfl rfl rfl rfl rfl [ii ((1 : Nat) : Int)] rfl (rq []) rfl (fun q hq => by have inv : ∀ q, q < 3 → (rq []) q < 5 := (by decide); exact inv q hq) (fun q hq j hj hne => by have inj : ∀ i, i < 3 → ∀ j, j < 3 → i ≠ j → (rq []) i ≠ (rq []) j := (by decide); exact inj q hq j hj hne) (by decide)
      ⟨⟨by omega, by simp [SObj.sc, SV.scs, SV.sc], ⟨_, rfl, Conv.refl _⟩, .inr (by simp), fun h => by cases h⟩, ⟨by omega, by simp [SObj.sc, SV.scs, SV.sc], ⟨_, rfl, Conv.refl _⟩, .inr (by simp), fun h => by cases h⟩, ⟨by omega, trivial, ⟨_, rfl, Conv.refl _⟩, .inl rfl, fun _ => by simp⟩, trivial⟩ (fun q hq => by have hq2 : q = 0 ∨ q = 1 := (by simpa using hq); rcases hq2 with rfl | rfl <;> exact ⟨by omega, _, rfl⟩) (.tup [ii (rTk b (a + i) (1)), .v (.bool true)]) [(0, .cells [ii ((a + i + 1 : Nat) : Int)] 3), (1, .cells [.opq 2] 22), (4, .pin plp), (2, .rwin 1 b.length (b.map u8v)), (3, .cells [ii ma, ii mb] 75)] 5 rfl rfl
      ⟨.inr ⟨0, _, rfl, rfl, rfl, rfl⟩, .inr ⟨1, _, rfl, rfl, rfl, rfl⟩, .inl ⟨rfl, (fun q hq => by have inv : ∀ q ∈ ([0, 1] : List Nat), (rq []) q ≠ 4 := (by decide); exact inv q hq)⟩, .inl ⟨rfl, (fun q hq => by have inv : ∀ q ∈ ([0, 1] : List Nat), (rq []) q ≠ 2 := (by decide); exact inv q hq)⟩, .inl ⟨rfl, (fun q hq => by have inv : ∀ q ∈ ([0, 1] : List Nat), (rq []) q ≠ 3 := (by decide); exact inv q hq)⟩, trivial⟩ ?_
    refine Run.of_wpK (hc w L0 none (fun _ h => by cases h)) 1000 _ ?_
    conv => whnf
    rw [hone i hi]
    conv => whnf
    exact Run.trim (T' := [(0, .ptr 3 0), (1, .fn 43 [.ptr 0 0, .ptr 1 0]), (6, ii ((k : Nat) : Int)), (7, ii (((i + 1 : Nat) : Nat) : Int))]) (M' := [(4, .pin plp), (0, .cells [ii ((a + (i + 1 : Nat) : Nat) : Int)] 3), (1, .cells [.opq 2] 22), (2, .rwin 1 b.length (b.map u8v)), (3, .cells [ii ma, ii mb] 75)]) 5 ⟨⟨rfl, (show 3 < 5 by decide)⟩, ⟨rfl, (show 0 < 5 by decide), (show 1 < 5 by decide), trivial⟩, ⟨rfl, trivial⟩, ⟨congrArg some (congrArg ii (wrap_succ (by omega))), trivial⟩, trivial⟩ ⟨⟨rfl, by omega, fun p hp => Nat.lt_of_lt_of_le (hcov.1 p hp) (show 4 ≤ 5 by decide)⟩, ⟨rfl, by omega, by simp [SObj.sc, SV.scs, SV.sc]⟩, ⟨rfl, by omega, by simp [SObj.sc, SV.scs, SV.sc]⟩, ⟨rfl, by omega, trivial⟩, ⟨rfl, by omega, by simp [SObj.sc, SV.scs, SV.sc]⟩, trivial⟩ (fun p hp => by have := hLB p hp; omega) (ih (trivial))
  · intro hJ
    refine Run.of_wpK (hc w L0 none (fun _ h => by cases h)) 1000 _ ?_
    conv => whnf
    by_cases hq24 : q < 24
    · have hC : rC q = q + 1 := by unfold rC; rw [if_pos hq24]
      have hN : rN q k = k := by unfold rN; rw [if_pos hq24]
      have hH : rH q k = shlI (q : Int) (k : Int) := by unfold rH; rw [if_pos hq24]
      rw [decide_eq_true (show ((q : Nat) : Int) < (24 : Int) by omega)]
      conv => whnf
      refine Run.callR (vs := [ii ((1 : Nat) : Int)]) (caps := [.ptr 0 0, .ptr 1 0]) (caps2 := [.ptr 0 0, .ptr 1 0]) (rd_spec b (a + q) (1) (by unfold rC rN at hfit; split at hfit <;> omega) hb) (ent _ _ Try.func43 (by kernel_rfl) rfl) rfl rfl rfl rfl rfl rfl [ii ((1 : Nat) : Int)] rfl (rq []) rfl (fun q hq => by have inv : ∀ q, q < 3 → (rq []) q < 5 := (by decide); exact inv q hq) (fun q hq j hj hne => by have inj : ∀ i, i < 3 → ∀ j, j < 3 → i ≠ j → (rq []) i ≠ (rq []) j := (by decide); exact inj q hq j hj hne) (by decide)
        ⟨⟨by omega, by simp [SObj.sc, SV.scs, SV.sc], ⟨_, rfl, Conv.refl _⟩, .inr (by simp), fun h => by cases h⟩, ⟨by omega, by simp [SObj.sc, SV.scs, SV.sc], ⟨_, rfl, Conv.refl _⟩, .inr (by simp), fun h => by cases h⟩, ⟨by omega, trivial, ⟨_, rfl, Conv.refl _⟩, .inl rfl, fun _ => by simp⟩, trivial⟩ (fun q hq => by have hq2 : q = 0 ∨ q = 1 := (by simpa using hq); rcases hq2 with rfl | rfl <;> exact ⟨by omega, _, rfl⟩) (.tup [ii (rTk b (a + q) (1)), .v (.bool true)]) [(0, .cells [ii ((a + q + 1 : Nat) : Int)] 3), (1, .cells [.opq 2] 22), (4, .pin plp), (2, .rwin 1 b.length (b.map u8v)), (3, .cells [ii ma, ii mb] 75)] 5 rfl rfl
        ⟨.inr ⟨0, _, rfl, rfl, rfl, rfl⟩, .inr ⟨1, _, rfl, rfl, rfl, rfl⟩, .inl ⟨rfl, (fun q hq => by have inv : ∀ q ∈ ([0, 1] : List Nat), (rq []) q ≠ 4 := (by decide); exact inv q hq)⟩, .inl ⟨rfl, (fun q hq => by have inv : ∀ q ∈ ([0, 1] : List Nat), (rq []) q ≠ 2 := (by decide); exact inv q hq)⟩, .inl ⟨rfl, (fun q hq => by have inv : ∀ q ∈ ([0, 1] : List Nat), (rq []) q ≠ 3 := (by decide); exact inv q hq)⟩, trivial⟩ ?_
      refine Run.of_wpK (hc w L0 none (fun _ h => by cases h)) 1000 _ ?_
      conv => whnf
      rw [hzero hq24]
      conv => whnf
      refine Run.draw (hc w L0 none (fun _ h => by cases h)) 5 ?_
      rw [show upto 0 5 = upto 0 4 ++ upto 4 1 from rfl]
      simp only [drawK_app]
      conv => whnf
      refine ⟨by omega, ?_⟩
      conv => whnf
      refine ⟨by kernel_rfl, ?_⟩
      refine Run.of_wpK (hc w L0 none (fun _ h => by cases h)) 1000 _ ?_
      conv => whnf
      rw [show (((q : Nat) : Int) == 24) = false from beq_eq_false_iff_ne.2 (by omega)]
      conv => whnf
      refine Run.callR (vs := [ii ((k : Nat) : Int)]) (caps := [.ptr 0 0, .ptr 1 0]) (caps2 := [.ptr 0 0, .ptr 1 0]) (rd_spec b (a + (q + 1)) (k) (by unfold rC rN at hfit; split at hfit <;> omega) hb) (ent _ _ Try.func43 (by kernel_rfl) rfl) rfl rfl rfl rfl rfl rfl [ii ((k : Nat) : Int)] rfl (rq []) rfl (fun q hq => by have inv : ∀ q, q < 3 → (rq []) q < 11 := (by decide); exact inv q hq) (fun q hq j hj hne => by have inj : ∀ i, i < 3 → ∀ j, j < 3 → i ≠ j → (rq []) i ≠ (rq []) j := (by decide); exact inj q hq j hj hne) (by decide)
        ⟨⟨by omega, by simp [SObj.sc, SV.scs, SV.sc], ⟨_, rfl, Conv.refl _⟩, .inr (by simp), fun h => by cases h⟩, ⟨by omega, by simp [SObj.sc, SV.scs, SV.sc], ⟨_, rfl, Conv.refl _⟩, .inr (by simp), fun h => by cases h⟩, ⟨by omega, trivial, ⟨_, rfl, Conv.refl _⟩, .inl rfl, fun _ => by simp⟩, trivial⟩ (fun q hq => by have hq2 : q = 0 ∨ q = 1 := (by simpa using hq); rcases hq2 with rfl | rfl <;> exact ⟨by omega, _, rfl⟩) (.tup [ii (rTk b (a + (q + 1)) (k)), .v (.bool true)]) [(0, .cells [ii ((a + (q + 1) + k : Nat) : Int)] 3), (1, .cells [.opq 2] 22), (4, .pin plp), (2, .rwin 1 b.length (b.map u8v)), (3, .cells [ii ma, ii mb] 75)] 11 rfl rfl
        ⟨.inr ⟨0, _, rfl, rfl, rfl, rfl⟩, .inr ⟨1, _, rfl, rfl, rfl, rfl⟩, .inl ⟨rfl, (fun q hq => by have inv : ∀ q ∈ ([0, 1] : List Nat), (rq []) q ≠ 4 := (by decide); exact inv q hq)⟩, .inl ⟨rfl, (fun q hq => by have inv : ∀ q ∈ ([0, 1] : List Nat), (rq []) q ≠ 2 := (by decide); exact inv q hq)⟩, .inl ⟨rfl, (fun q hq => by have inv : ∀ q ∈ ([0, 1] : List Nat), (rq []) q ≠ 3 := (by decide); exact inv q hq)⟩, trivial⟩ ?_
      refine Run.of_wpK (hc w L0 none (fun _ h => by cases h)) 1000 _ ?_
      conv => whnf
      refine Run.callR (vs := [.ptr 0 0, ii (W (shlI (q : Int) (k : Int) + rTk b (a + (q + 1)) (k)))]) (caps := []) (caps2 := []) (learn_spec (ma, mb) (W (shlI (q : Int) (k : Int) + rTk b (a + (q + 1)) (k)))) (ent _ _ Try.func45 (by kernel_rfl) rfl) rfl rfl rfl rfl rfl rfl [.ptr 3 0, ii (W (shlI (q : Int) (k : Int) + rTk b (a + (q + 1)) (k)))] rfl (rq [(0, 3), (3, 0)]) rfl (fun q hq => by have inv : ∀ q, q < 1 → (rq [(0, 3), (3, 0)]) q < 11 := (by decide); exact inv q hq) (fun q hq j hj hne => by have inj : ∀ i, i < 1 → ∀ j, j < 1 → i ≠ j → (rq [(0, 3), (3, 0)]) i ≠ (rq [(0, 3), (3, 0)]) j := (by decide); exact inj q hq j hj hne) (by decide)
        ⟨⟨by omega, by simp [SObj.sc, SV.scs, SV.sc], ⟨_, rfl, Conv.refl _⟩, .inr (by simp), fun h => by cases h⟩, trivial⟩ (fun q hq => by have hq2 : q = 0 := (by simpa using hq); rcases hq2 with rfl <;> exact ⟨by omega, _, rfl⟩) (.tup []) [(3, .cells [ii (mLearn (ma, mb) (W (shlI (q : Int) (k : Int) + rTk b (a + (q + 1)) (k)))).1, ii (mLearn (ma, mb) (W (shlI (q : Int) (k : Int) + rTk b (a + (q + 1)) (k)))).2] 75), (0, .cells [ii ((a + (q + 1) + k : Nat) : Int)] 3), (1, .cells [.opq 2] 22), (4, .pin plp), (2, .rwin 1 b.length (b.map u8v))] 11 rfl rfl
        ⟨.inr ⟨0, _, rfl, rfl, rfl, rfl⟩, .inl ⟨rfl, (fun q hq => by have inv : ∀ q ∈ ([0] : List Nat), (rq [(0, 3), (3, 0)]) q ≠ 0 := (by decide); exact inv q hq)⟩, .inl ⟨rfl, (fun q hq => by have inv : ∀ q ∈ ([0] : List Nat), (rq [(0, 3), (3, 0)]) q ≠ 1 := (by decide); exact inv q hq)⟩, .inl ⟨rfl, (fun q hq => by have inv : ∀ q ∈ ([0] : List Nat), (rq [(0, 3), (3, 0)]) q ≠ 4 := (by decide); exact inv q hq)⟩, .inl ⟨rfl, (fun q hq => by have inv : ∀ q ∈ ([0] : List Nat), (rq [(0, 3), (3, 0)]) q ≠ 2 := (by decide); exact inv q hq)⟩, trivial⟩ ?_
      refine Run.of_wpK (hc w L0 none (fun _ h => by cases h)) 1000 _ ?_
      conv => whnf
      rw [← hRR, hC, hN, hH]
      exact SpecR.intro 11 (by decide) (fun p hp => by have := hLB p hp; omega) (by decide) hcov rfl rfl ⟨trivial, trivial, trivial⟩ ⟨⟨rfl, by omega, by simp [SObj.sc, SV.scs, SV.sc]⟩, ⟨rfl, by omega, by simp [SObj.sc, SV.scs, SV.sc]⟩, ⟨rfl, by omega, by simp [SObj.sc, SV.scs, SV.sc]⟩, trivial⟩
    · obtain rfl : q = 24 := by omega
      have hC : rC 24 = 24 := rfl
      have hN : rN 24 k = 31 := rfl
      have hH : rH 24 k = 0 := rfl
      rw [decide_eq_false (show ¬ ((24 : Nat) : Int) < (24 : Int) by decide)]
      conv => whnf
      refine Run.draw (hc w L0 none (fun _ h => by cases h)) 5 ?_
      rw [show upto 0 5 = upto 0 4 ++ upto 4 1 from rfl]
      simp only [drawK_app]
      conv => whnf
      refine ⟨by omega, ?_⟩
      conv => whnf
      refine ⟨by kernel_rfl, ?_⟩
      refine Run.of_wpK (hc w L0 none (fun _ h => by cases h)) 1000 _ ?_
      conv => whnf
      refine Run.callR (vs := [ii ((31 : Nat) : Int)]) (caps := [.ptr 0 0, .ptr 1 0]) (caps2 := [.ptr 0 0, .ptr 1 0]) (rd_spec b (a + 24) (31) (by unfold rC rN at hfit; split at hfit <;> omega) hb) (ent _ _ Try.func43 (by kernel_rfl) rfl) rfl rfl rfl rfl rfl rfl [ii ((31 : Nat) : Int)] rfl (rq []) rfl (fun q hq => by have inv : ∀ q, q < 3 → (rq []) q < 11 := (by decide); exact inv q hq) (fun q hq j hj hne => by have inj : ∀ i, i < 3 → ∀ j, j < 3 → i ≠ j → (rq []) i ≠ (rq []) j := (by decide); exact inj q hq j hj hne) (by decide)
        ⟨⟨by omega, by simp [SObj.sc, SV.scs, SV.sc], ⟨_, rfl, Conv.refl _⟩, .inr (by simp), fun h => by cases h⟩, ⟨by omega, by simp [SObj.sc, SV.scs, SV.sc], ⟨_, rfl, Conv.refl _⟩, .inr (by simp), fun h => by cases h⟩, ⟨by omega, trivial, ⟨_, rfl, Conv.refl _⟩, .inl rfl, fun _ => by simp⟩, trivial⟩ (fun q hq => by have hq2 : q = 0 ∨ q = 1 := (by simpa using hq); rcases hq2 with rfl | rfl <;> exact ⟨by omega, _, rfl⟩) (.tup [ii (rTk b (a + 24) (31)), .v (.bool true)]) [(0, .cells [ii ((a + 24 + 31 : Nat) : Int)] 3), (1, .cells [.opq 2] 22), (4, .pin plp), (2, .rwin 1 b.length (b.map u8v)), (3, .cells [ii ma, ii mb] 75)] 11 rfl rfl
        ⟨.inr ⟨0, _, rfl, rfl, rfl, rfl⟩, .inr ⟨1, _, rfl, rfl, rfl, rfl⟩, .inl ⟨rfl, (fun q hq => by have inv : ∀ q ∈ ([0, 1] : List Nat), (rq []) q ≠ 4 := (by decide); exact inv q hq)⟩, .inl ⟨rfl, (fun q hq => by have inv : ∀ q ∈ ([0, 1] : List Nat), (rq []) q ≠ 2 := (by decide); exact inv q hq)⟩, .inl ⟨rfl, (fun q hq => by have inv : ∀ q ∈ ([0, 1] : List Nat), (rq []) q ≠ 3 := (by decide); exact inv q hq)⟩, trivial⟩ ?_
      refine Run.of_wpK (hc w L0 none (fun _ h => by cases h)) 1000 _ ?_
      conv => whnf
      refine Run.callR (vs := [.ptr 0 0, ii (W (0 + rTk b (a + 24) (31)))]) (caps := []) (caps2 := []) (learn_spec (ma, mb) (W (0 + rTk b (a + 24) (31)))) (ent _ _ Try.func45 (by kernel_rfl) rfl) rfl rfl rfl rfl rfl rfl [.ptr 3 0, ii (W (0 + rTk b (a + 24) (31)))] rfl (rq [(0, 3), (3, 0)]) rfl (fun q hq => by have inv : ∀ q, q < 1 → (rq [(0, 3), (3, 0)]) q < 11 := (by decide); exact inv q hq) (fun q hq j hj hne => by have inj : ∀ i, i < 1 → ∀ j, j < 1 → i ≠ j → (rq [(0, 3), (3, 0)]) i ≠ (rq [(0, 3), (3, 0)]) j := (by decide); exact inj q hq j hj hne) (by decide)
        ⟨⟨by omega, by simp [SObj.sc, SV.scs, SV.sc], ⟨_, rfl, Conv.refl _⟩, .inr (by simp), fun h => by cases h⟩, trivial⟩ (fun q hq => by have hq2 : q = 0 := (by simpa using hq); rcases hq2 with rfl <;> exact ⟨by omega, _, rfl⟩) (.tup []) [(3, .cells [ii (mLearn (ma, mb) (W (0 + rTk b (a + 24) (31)))).1, ii (mLearn (ma, mb) (W (0 + rTk b (a + 24) (31)))).2] 75), (0, .cells [ii ((a + 24 + 31 : Nat) : Int)] 3), (1, .cells [.opq 2] 22), (4, .pin plp), (2, .rwin 1 b.length (b.map u8v))] 11 rfl rfl
        ⟨.inr ⟨0, _, rfl, rfl, rfl, rfl⟩, .inl ⟨rfl, (fun q hq => by have inv : ∀ q ∈ ([0] : List Nat), (rq [(0, 3), (3, 0)]) q ≠ 0 := (by decide); exact inv q hq)⟩, .inl ⟨rfl, (fun q hq => by have inv : ∀ q ∈ ([0] : List Nat), (rq [(0, 3), (3, 0)]) q ≠ 1 := (by decide); exact inv q hq)⟩, .inl ⟨rfl, (fun q hq => by have inv : ∀ q ∈ ([0] : List Nat), (rq [(0, 3), (3, 0)]) q ≠ 4 := (by decide); exact inv q hq)⟩, .inl ⟨rfl, (fun q hq => by have inv : ∀ q ∈ ([0] : List Nat), (rq [(0, 3), (3, 0)]) q ≠ 2 := (by decide); exact inv q hq)⟩, trivial⟩ ?_
      refine Run.of_wpK (hc w L0 none (fun _ h => by cases h)) 1000 _ ?_
      conv => whnf
      rw [← hRR, hC, hN, hH]
      exact SpecR.intro 11 (by decide) (fun p hp => by have := hLB p hp; omega) (by decide) hcov rfl rfl ⟨trivial, trivial, trivial⟩ ⟨⟨rfl, by omega, by simp [SObj.sc, SV.scs, SV.sc]⟩, ⟨rfl, by omega, by simp [SObj.sc, SV.scs, SV.sc]⟩, ⟨rfl, by omega, by simp [SObj.sc, SV.scs, SV.sc]⟩, trivial⟩
end Go.Proofs.Ythaigkamfnjfbaa
