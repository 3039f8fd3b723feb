/-
  Laws of the small executor, and walks of the functions that the statement reaches (part 11 of several, put together out of smaller texts).
  The conditions stand with each law.
-/
import Derived.Test.YtnnlpdgnlccbjaaMCj
namespace Go.Proofs.Ytnnlpdgnlccbjaa
open Go.Sx
set_option maxRecDepth 100000
set_option maxHeartbeats 4000000
/-- A copy of a slice that is told: 'e' cells an element, of the type te. -/
def FCl (e te : Nat) : Mem → List SV → Option (List Nat × SV) := fun M args => match args with
  | [.opq j] => match M j with
    | some (.rwin e2 n vs) => if e2 = e ∧ n ≤ 1000000 ∧ (∀ u ∈ vs, u.oneCell' = true) then some ([e, n, te], .agg (vs.map .v)) else none
    | some (.row e2 n xs _) => if e2 = e ∧ n ≤ 1000000 ∧ allOne xs = true then some ([e, n, te], .agg xs) else none
    | _ => none
  | _ => none
theorem ones_conc {ρ : Env} : ∀ {l : List SV}, allOne l = true → ∀ u ∈ SV.concs ρ l, u.oneCell' = true := by
  intro l h u hu
  rw [concs_map] at hu
  obtain ⟨v, hv, rfl⟩ := List.mem_map.1 hu
  exact one_conc (allOne_mem h v hv)
theorem Maker.clone {g : FuncId} {e te : Nat} (he : 0 < e) (hg : Enters Try.prog g) (h : ∀ (v : Value) (n : Nat) (vs : List Value) (w : World), RowsAt w v e n vs → (∀ u ∈ vs, u.oneCell' = true) → n ≤ 1000000 → Calls Try.prog g #[v] w (ClonePost te e n vs w)) : Maker Try.prog g (FCl e te) where
  ent := hg
  cong M M' args hb := by
    unfold FCl
    split
    · rename_i j
      rw [hb (.opq j) (by simp) j (by simp [blkOf])]
    · rfl
  run w0 L ρ M S args e2 m te2 xs w hW hF hs := by
    unfold FCl at hF
    split at hF
    case h_2 => cases hF
    rename_i j
    split at hF
    · rename_i e3 n vs hM
      split at hF
      case isFalse => cases hF
      rename_i hc
      obtain ⟨rfl, h1, h2⟩ := hc
      simp only [Option.some.injEq, Prod.mk.injEq, List.cons.injEq, SV.agg.injEq, and_true] at hF
      obtain ⟨⟨rfl, rfl, rfl⟩, rfl⟩ := hF
      exact ⟨scs_v S vs, (h _ n vs w (hW.rowsAt hM) h2 h1).mono fun en w' hp => by rw [concs_v]; exact hp⟩
    · rename_i e3 n xs2 t2 hM
      split at hF
      case isFalse => cases hF
      rename_i hc
      obtain ⟨rfl, h1, h2⟩ := hc
      simp only [Option.some.injEq, Prod.mk.injEq, List.cons.injEq, SV.agg.injEq, and_true] at hF
      obtain ⟨⟨rfl, rfl, rfl⟩, rfl⟩ := hF
      exact ⟨(hW.mem j _ hM).2.1, h _ n _ w (hW.rowsAtR hM he) (ones_conc h2) h1⟩
    · cases hF
  runM w0 L ρ M S args pk w _ hF _ := by
    exfalso
    unfold FCl at hF
    split at hF
    · split at hF
      · split at hF
        · cases hF
        · cases hF
      · split at hF
        · cases hF
        · cases hF
      · cases hF
    · cases hF
theorem FCl_win {e te n : Nat} {vs : List Value} {M : Mem} {j : Nat} (hM : M j = some (.rwin e n vs)) (hn : n ≤ 1000000) (h1 : ∀ u ∈ vs, u.oneCell' = true) : FCl e te M [.opq j] = some ([e, n, te], .agg (vs.map .v)) := by
  unfold FCl
  simp only [hM]
  rw [if_pos ⟨trivial, hn, h1⟩]
theorem mk_rules : Maker Try.prog 62 (FCl 10 36) := Maker.clone (by decide) (ent _ _ Try.func62 (by kernel_rfl) rfl) cloneRules
theorem mk_ints : Maker Try.prog 63 (FCl 1 3) := Maker.clone (by decide) (ent _ _ Try.func63 (by kernel_rfl) rfl) cloneInts
theorem mk_params : Maker Try.prog 64 (FCl 8 60) := Maker.clone (by decide) (ent _ _ Try.func64 (by kernel_rfl) rfl) cloneParams
theorem mk_syns : Maker Try.prog 65 (FCl 4 55) := Maker.clone (by decide) (ent _ _ Try.func65 (by kernel_rfl) rfl) cloneSyns
theorem opF_callM {tab : Tab} {pf : PF} {T : Tm} {M : Mem} {n : Nat} {f : Operand} {args : Array Operand} {ts : Array TypeId} {fv : SV} {g : FuncId} {vs : List SV} {F : Mem → List SV → Option (List Nat × SV)} {e m te : Nat} {xs : List SV} (hf : ev T f = some fv) (hfv : calleeOf fv = some (g, [])) (hg : Sx.look pf g = none) (hg2 : Sx.look pf (g + 1000) = some F) (hvs : evs T args.toList = some vs) (hF : F M vs = some ([e, m, te], .agg xs)) (hgb : Nat.blt g 1000 = true := by rfl) :
    opF tab pf T M n (.call { callee := .value f, args := args, argTypes := ts }) = some (.new (.opq n) (.row e m xs te)) := by
  simp only [opF, opCall, hf, hfv, hgb, hg, opCallM, hg2, hvs, hF]
theorem opF_make2 {tab : Tab} {pf : PF} {T : Tm} {M : Mem} {n m bytes : Nat} {t te : TypeId} {x y : Operand} {ti tie : TI} {kx ky : IntKind} {z0 z1 : Value} (ht : Sx.look tab t = some ti) (hs : ti.sh = .slc te 2 bytes) (hte : Sx.look tab te = some tie) (hz : tie.zero = [z0, z1])
    (hx : ev T x = some (.v (.int kx (m : Int)))) (hy : ev T y = some (.v (.int ky (m : Int)))) (hb : bytes * m ≤ 281474976710656) (hm : m ≤ 8388608) : opF tab pf T M n (.makeSlice t x y) = some (.new (.opq n) (.row 2 m ((List.replicate m ()).flatMap fun _ => [.v z0, .v z1]) te)) := by
  simp only [opF, opMake, ht, hs, hte, hz, hx, hy, Int.toNat_natCast]
  rw [decide_eq_true (p := 0 ≤ (m : Int) ∧ True ∧ bytes * m ≤ 281474976710656 ∧ (m : Int) ≤ 8388608) ⟨by omega, trivial, hb, by omega⟩]
theorem one_vals {α : Type} {f : α → List Value} (hf : ∀ a, ∀ u ∈ f a, u.oneCell' = true) (l : List α) : ∀ u ∈ l.flatMap f, u.oneCell' = true := fun u hu => by
  obtain ⟨a, _, h⟩ := List.mem_flatMap.1 hu
  exact hf a u h
theorem one_prm (l : List Prm) : ∀ u ∈ l.flatMap Prm.vals, u.oneCell' = true := one_vals (fun a u hu => by simp [Prm.vals] at hu; rcases hu with rfl | rfl | rfl | rfl | rfl | rfl | rfl | rfl <;> rfl) l
theorem one_syn (l : List Syn) : ∀ u ∈ l.flatMap Syn.vals, u.oneCell' = true := one_vals (fun a u hu => by simp [Syn.vals] at hu; rcases hu with rfl | rfl | rfl | rfl <;> rfl) l
theorem one_rul (l : List Rul) : ∀ u ∈ l.flatMap Rul.vals, u.oneCell' = true := one_vals (fun a u hu => by simp [Rul.vals] at hu; rcases hu with rfl | rfl | rfl | rfl | rfl | rfl | rfl | rfl | rfl | rfl <;> rfl) l
theorem one_ints (l : List Int) : ∀ u ∈ ints l, u.oneCell' = true := fun u hu => by obtain ⟨a, _, rfl⟩ := List.mem_map.1 hu; rfl
theorem st_rep : ∀ n : Nat, ((List.replicate n ()).flatMap fun _ => [SV.v (.int .i64 0), SV.v (.int .i64 0)]) = (List.replicate n ste0).flatMap Ste.cells
  | 0 => rfl
  | n + 1 => by
    rw [List.replicate_succ, List.replicate_succ, List.flatMap_cons, List.flatMap_cons, st_rep n]; rfl
theorem m0_succ (x : Lnt) {i : Nat} (h : i < x.n.S.length) : (x.m0.take (i + 1)).flatMap Mrk.cells = (x.m0.take i).flatMap Mrk.cells ++ [ii x.n.S[i].w, ii 0, ii 0, ii 0] := by
  have h2 : i < x.m0.length := by simpa [Lnt.m0] using h
  rw [← List.take_append_getElem h2, List.flatMap_append]
  have : x.m0[i] = mk0 x.n.S[i] := by simp [Lnt.m0]
  rw [this]
  simp [mk0, Mrk.cells]
abbrev pfNew : PF := [(62 + 1000, FCl 10 36), (63 + 1000, FCl 1 3), (64 + 1000, FCl 8 60), (65 + 1000, FCl 4 55), (2000, fun _ _ => none)]
theorem pfNew_ok : PF.oks Try.prog pfNew := ⟨mk_rules, mk_ints, mk_params, mk_syns, trivial, trivial⟩
/-- What New looks at. -/
def newM (x : Lnt) : List (Nat × SObj) := [(0, .rwin 8 x.n.N.length (x.n.N.flatMap Prm.vals)), (1, .rwin 4 x.n.S.length (x.n.S.flatMap Syn.vals)), (2, .rwin 10 x.rs.length (x.rs.flatMap Rul.vals)), (3, .rwin 1 x.pl.length (ints x.pl))]
/-- What New leaves. -/
def newR (x : Lnt) : List (Nat × SObj) := [(4, .cells [ii 0, .opq 5, ii x.n.inp, .opq 6, .opq 7, .mp 12, .mp 13, .mp 14, .mp 15, .mp 16, .mp 17, .mp 18, .mp 19, .mp 20, .mp 21, .mp 22, .mp 23, .mp 24, .mp 25, .mp 26, .mp 27, .opq 8, .opq 9, .opq 10, .mp 11] 96), (5, .row 8 x.n.N.length ((x.n.N.flatMap Prm.vals).map .v) 60), (6, .row 4 x.n.S.length ((x.n.S.flatMap Syn.vals).map .v) 55), (7, .row 2 x.n.N.length ((List.replicate x.n.N.length ste0).flatMap Ste.cells) 139), (8, .row 10 x.rs.length ((x.rs.flatMap Rul.vals).map .v) 36), (9, .row 1 x.pl.length ((ints x.pl).map .v) 3), (10, .row 4 x.n.S.length (x.m0.flatMap Mrk.cells) 84), (11, .kmap true true x.tot), (12, .kmap false false []), (13, .kmap false false []), (14, .kmap false false []), (15, .kmap false false []), (16, .kmap false false []), (17, .kmap false false []), (18, .kmap false false []), (19, .kmap false false []), (20, .kmap false false []), (21, .kmap false false []), (22, .kmap false false []), (23, .kmap false false []), (24, .kmap false false []), (25, .kmap false false []), (26, .kmap false false []), (27, .kmap false false [])]
theorem new_ok (x : Lnt) (h : learnChk x.n x.rs x.pl = 0) :
    BSpec Try.prog 25 [.agg [.opq 0, ii x.n.inp, .opq 1], .opq 2, .opq 3] (newM x) 4 [] (.tup [.ptr 4 0, ii 0]) (newR x) 28 := by
  have hx : NetOK x := netOK_of h
  have hx1 := hx.N2
  have hx2 := hx.S1
  have hx3 := hx.rl
  have hx4 : x.pl.length = x.n.S.length := hx.lpl
  have hc : ∀ w L' rd, (∀ p, rd = some p → p ∈ L') → Cx.ok ⟨Try.prog, tab, pfNew, 25, Try.f25, [], w, L', rd⟩ := fun w L' rd h => ⟨tab_ok, pfNew_ok, Try.func25, mixed, h⟩
  refine BSpec.start (tab := tab) (pf := pfNew) (cuts := []) Try.func25 rfl ⟨⟨(show 0 < 4 by decide), trivial, (show 1 < 4 by decide), trivial⟩, (show 2 < 4 by decide), (show 3 < 4 by decide), trivial⟩ rfl fun w L0 plp hL hLB hcov => Run.of_wpK (hc w L0 none (fun _ h => by cases h)) 100 _ ?_
  conv => whnf
  refine Run.callE (g := 15) (vs := [.agg [.opq 0, ii x.n.inp, .opq 1], .opq 2, .opq 3]) (caps := []) (ii 0) (fun ρ w1 hW => by
    have := learnCheck_run ((SV.opq 0).conc ρ) ((SV.opq 1).conc ρ) x.n ((SV.opq 2).conc ρ) x.rs ((SV.opq 3).conc ρ) x.pl w1 ⟨hW.rowsAt rfl, hW.rowsAt rfl⟩ (hW.rowsAt rfl) (hW.rowsAt rfl)
    rw [h] at this
    exact this) (ent _ _ Try.func15 (by kernel_rfl) rfl) rfl rfl rfl rfl rfl rfl rfl trivial ?_
  refine Run.of_wpK (hc w L0 none (fun _ h => by cases h)) 1000 _ ?_
  conv => whnf
  rw [opF_callM (F := FCl 10 36) rfl rfl rfl rfl rfl (FCl_win rfl (by omega) (one_rul _))]
  conv => whnf
  rw [opF_callM (F := FCl 1 3) rfl rfl rfl rfl rfl (FCl_win rfl (by omega) (one_ints _))]
  conv => whnf
  refine Run.draw (hc w L0 none (fun _ h => by cases h)) 14 ?_
  rw [show upto 0 14 = upto 0 4 ++ (upto 4 5 ++ upto 9 5) from rfl]
  simp only [drawK_app]
  conv => whnf
  rw [opF_callM (F := FCl 8 60) rfl rfl rfl rfl rfl (FCl_win rfl (by omega) (one_prm _))]
  conv => whnf
  rw [opF_callM (F := FCl 4 55) rfl rfl rfl rfl rfl (FCl_win rfl (by omega) (one_syn _))]
  conv => whnf
  refine ⟨by kernel_rfl, ?_⟩
  refine Run.of_wpK (hc w L0 none (fun _ h => by cases h)) 1000 _ ?_
  conv => whnf
  rw [opF_make2 (m := x.n.N.length) rfl rfl rfl rfl rfl rfl (by omega) (by omega)]
  conv => whnf
  rw [st_rep]
  refine Run.nils (T' := [(9, .ptr 8 0), (3, .ptr 5 0), (47, .opq 1), (48, ii (x.n.S.length : Int)), (49, ii ((0 : Nat) : Int))]) (M' := [(24, .row 4 0 [] 84), (8, .cells [ii 0, .opq 12, ii x.n.inp, .opq 17, .opq 23, .v (.map none), .v (.map none), .v (.map none), .v (.map none), .v (.map none), .v (.map none), .v (.map none), .v (.map none), .v (.map none), .v (.map none), .v (.map none), .v (.map none), .v (.map none), .v (.map none), .v (.map none), .v (.map none), .opq 6, .opq 7, .opq 24, .v (.map none)] 96), (4, .pin plp), (5, .cells [.opq 0, ii x.n.inp, .opq 1] 25), (12, .row 8 x.n.N.length ((x.n.N.flatMap Prm.vals).map .v) 60), (17, .row 4 x.n.S.length ((x.n.S.flatMap Syn.vals).map .v) 55), (23, .row 2 x.n.N.length ((List.replicate x.n.N.length ste0).flatMap Ste.cells) 139), (6, .row 10 x.rs.length ((x.rs.flatMap Rul.vals).map .v) 36), (7, .row 1 x.pl.length ((ints x.pl).map .v) 3), (0, .rwin 8 x.n.N.length (x.n.N.flatMap Prm.vals)), (1, .rwin 4 x.n.S.length (x.n.S.flatMap Syn.vals)), (2, .rwin 10 x.rs.length (x.rs.flatMap Rul.vals)), (3, .rwin 1 x.pl.length (ints x.pl))]) 1 (fun _ => .row 4 0 [] 84) (fun _ _ => .inl ⟨_, _, rfl⟩) ⟨⟨_, rfl, .inl rfl⟩, ⟨_, rfl, .inl rfl⟩, ⟨_, rfl, .inl rfl⟩, ⟨_, rfl, .inl rfl⟩, ⟨_, rfl, .inl rfl⟩, trivial⟩ ⟨.inl ⟨0, by decide, rfl⟩, .inr ⟨_, rfl, .inr ⟨_, _, _, rfl, rfl, ⟨.inl rfl, .inl rfl, .inl rfl, .inl rfl, .inl rfl, .inl rfl, .inl rfl, .inl rfl, .inl rfl, .inl rfl, .inl rfl, .inl rfl, .inl rfl, .inl rfl, .inl rfl, .inl rfl, .inl rfl, .inl rfl, .inl rfl, .inl rfl, .inl rfl, .inl rfl, .inl rfl, .inr (.inl ⟨rfl, 0, by decide, rfl⟩), .inl rfl, trivial⟩⟩⟩, .inr ⟨_, rfl, .inl rfl⟩, .inr ⟨_, rfl, .inl rfl⟩, .inr ⟨_, rfl, .inl rfl⟩, .inr ⟨_, rfl, .inl rfl⟩, .inr ⟨_, rfl, .inl rfl⟩, .inr ⟨_, rfl, .inl rfl⟩, .inr ⟨_, rfl, .inl rfl⟩, .inr ⟨_, rfl, .inl rfl⟩, .inr ⟨_, rfl, .inl rfl⟩, .inr ⟨_, rfl, .inl rfl⟩, .inr ⟨_, rfl, .inl rfl⟩, trivial⟩ ?_
  refine Run.trimQ (T' := [(9, .ptr 30 0), (3, .ptr 5 0), (47, .opq 1), (48, ii (x.n.S.length : Int)), (49, ii ((0 : Nat) : Int))]) (M' := [(36, .row 4 0 ((x.m0.take 0).flatMap Mrk.cells) 84), (30, .cells [ii 0, .opq 31, ii x.n.inp, .opq 32, .opq 33, .v (.map none), .v (.map none), .v (.map none), .v (.map none), .v (.map none), .v (.map none), .v (.map none), .v (.map none), .v (.map none), .v (.map none), .v (.map none), .v (.map none), .v (.map none), .v (.map none), .v (.map none), .v (.map none), .opq 34, .opq 35, .opq 36, .v (.map none)] 96), (4, .pin plp), (5, .cells [.opq 0, ii x.n.inp, .opq 1] 25), (31, .row 8 x.n.N.length ((x.n.N.flatMap Prm.vals).map .v) 60), (32, .row 4 x.n.S.length ((x.n.S.flatMap Syn.vals).map .v) 55), (33, .row 2 x.n.N.length ((List.replicate x.n.N.length ste0).flatMap Ste.cells) 139), (34, .row 10 x.rs.length ((x.rs.flatMap Rul.vals).map .v) 36), (35, .row 1 x.pl.length ((ints x.pl).map .v) 3), (0, .rwin 8 x.n.N.length (x.n.N.flatMap Prm.vals)), (1, .rwin 4 x.n.S.length (x.n.S.flatMap Syn.vals)), (2, .rwin 10 x.rs.length (x.rs.flatMap Rul.vals)), (3, .rwin 1 x.pl.length (ints x.pl))]) (rq [(30, 8), (8, 30), (31, 12), (12, 31), (32, 17), (17, 32), (33, 23), (23, 33), (34, 6), (6, 34), (35, 7), (7, 35), (36, 24), (24, 36)]) 54 ?_ ?_ ?_ ?_ ?_
  · intro i hi j hj hne he
    have inv : ∀ i, i < 54 → rq [(30, 8), (8, 30), (31, 12), (12, 31), (32, 17), (17, 32), (33, 23), (23, 33), (34, 6), (6, 34), (35, 7), (7, 35), (36, 24), (24, 36)] (rq [(30, 8), (8, 30), (31, 12), (12, 31), (32, 17), (17, 32), (33, 23), (23, 33), (34, 6), (6, 34), (35, 7), (7, 35), (36, 24), (24, 36)] i) = i := by decide
    exact hne (by rw [← inv i hi, he, inv j hj])
  · exact ⟨⟨rfl, (show 30 < 54 by decide)⟩, ⟨rfl, (show 5 < 54 by decide)⟩, ⟨rfl, (show 1 < 54 by decide)⟩, ⟨rfl, trivial⟩, ⟨rfl, trivial⟩, trivial⟩
  · exact ⟨⟨congrArg some (oren_fix (S := fun _ => False) (fun i hi => hi.elim) (o := .row 4 0 ((x.m0.take 0).flatMap Mrk.cells) 84) (scs_marks _ _)).symm, by omega, scs_marks _ _⟩, ⟨rfl, by omega, by simp [SObj.sc, SV.scs, SV.sc]⟩, ⟨congrArg some (pin_fix hcov (fun i hi => rq_fix (rq_noneB (B := 4) rfl hi))).symm, by omega, fun p hp => Nat.lt_of_lt_of_le (hcov.1 p hp) (show 4 ≤ 54 by decide)⟩, ⟨rfl, by omega, by simp [SObj.sc, SV.scs, SV.sc]⟩, ⟨congrArg some (oren_fix (S := fun _ => False) (fun i hi => hi.elim) (o := .row 8 x.n.N.length ((x.n.N.flatMap Prm.vals).map .v) 60) (scs_v _ _)).symm, by omega, scs_v _ _⟩, ⟨congrArg some (oren_fix (S := fun _ => False) (fun i hi => hi.elim) (o := .row 4 x.n.S.length ((x.n.S.flatMap Syn.vals).map .v) 55) (scs_v _ _)).symm, by omega, scs_v _ _⟩, ⟨congrArg some (oren_fix (S := fun _ => False) (fun i hi => hi.elim) (o := .row 2 x.n.N.length ((List.replicate x.n.N.length ste0).flatMap Ste.cells) 139) (scs_st _ _)).symm, by omega, scs_st _ _⟩, ⟨congrArg some (oren_fix (S := fun _ => False) (fun i hi => hi.elim) (o := .row 10 x.rs.length ((x.rs.flatMap Rul.vals).map .v) 36) (scs_v _ _)).symm, by omega, scs_v _ _⟩, ⟨congrArg some (oren_fix (S := fun _ => False) (fun i hi => hi.elim) (o := .row 1 x.pl.length ((ints x.pl).map .v) 3) (scs_v _ _)).symm, by omega, scs_v _ _⟩, ⟨rfl, by omega, trivial⟩, ⟨rfl, by omega, trivial⟩, ⟨rfl, by omega, trivial⟩, ⟨rfl, by omega, trivial⟩, trivial⟩
  · intro p hp
    have := hLB p hp; exact ⟨rq_fix (rq_noneB (B := 4) rfl this), by omega⟩
  refine Run.upToJ (T := fun i => [(9, .ptr 30 0), (3, .ptr 5 0), (47, .opq 1), (48, ii (x.n.S.length : Int)), (49, ii ((i : Nat) : Int))]) (M := fun i => [(36, .row 4 i ((x.m0.take i).flatMap Mrk.cells) 84), (30, .cells [ii 0, .opq 31, ii x.n.inp, .opq 32, .opq 33, .v (.map none), .v (.map none), .v (.map none), .v (.map none), .v (.map none), .v (.map none), .v (.map none), .v (.map none), .v (.map none), .v (.map none), .v (.map none), .v (.map none), .v (.map none), .v (.map none), .v (.map none), .v (.map none), .opq 34, .opq 35, .opq 36, .v (.map none)] 96), (4, .pin plp), (5, .cells [.opq 0, ii x.n.inp, .opq 1] 25), (31, .row 8 x.n.N.length ((x.n.N.flatMap Prm.vals).map .v) 60), (32, .row 4 x.n.S.length ((x.n.S.flatMap Syn.vals).map .v) 55), (33, .row 2 x.n.N.length ((List.replicate x.n.N.length ste0).flatMap Ste.cells) 139), (34, .row 10 x.rs.length ((x.rs.flatMap Rul.vals).map .v) 36), (35, .row 1 x.pl.length ((ints x.pl).map .v) 3), (0, .rwin 8 x.n.N.length (x.n.N.flatMap Prm.vals)), (1, .rwin 4 x.n.S.length (x.n.S.flatMap Syn.vals)), (2, .rwin 10 x.rs.length (x.rs.flatMap Rul.vals)), (3, .rwin 1 x.pl.length (ints x.pl))]) (fun _ => True) (x.n.S.length) trivial ?_ ?_
  · intro i hi hJ ih
    refine Run.of_wpK (hc w L0 none (fun _ h => by cases h)) 1000 _ ?_
    conv => whnf
    rw [decide_eq_true (show ((i : Nat) : Int) < (x.n.S.length : Int) by omega)]
    conv => whnf
    refine ⟨by omega, ?_⟩
    conv => whnf
    rw [opF_loadW (f := Syn.vals) (l := x.n.S) i rfl rfl rfl rfl rfl Syn.vlen (by rw [idx_nat]) hi]
    conv => whnf
    refine Run.draw (hc w L0 none (fun _ h => by cases h)) 13 ?_
    rw [show upto 0 13 = upto 0 10 ++ upto 10 3 from rfl]
    simp only [drawK_app]
    conv => whnf
    refine ⟨by omega, ?_⟩
    conv => whnf
    refine ⟨by kernel_rfl, ?_⟩
    refine Run.of_wpK (hc w L0 none (fun _ h => by cases h)) 1000 _ ?_
    conv => whnf
    refine Run.trimQ (T' := [(9, .ptr 30 0), (3, .ptr 5 0), (47, .opq 1), (48, ii (x.n.S.length : Int)), (49, ii (((i + 1) : Nat) : Int))]) (M' := [(36, .row 4 (i + 1) ((x.m0.take (i + 1)).flatMap Mrk.cells) 84), (30, .cells [ii 0, .opq 31, ii x.n.inp, .opq 32, .opq 33, .v (.map none), .v (.map none), .v (.map none), .v (.map none), .v (.map none), .v (.map none), .v (.map none), .v (.map none), .v (.map none), .v (.map none), .v (.map none), .v (.map none), .v (.map none), .v (.map none), .v (.map none), .v (.map none), .opq 34, .opq 35, .opq 36, .v (.map none)] 96), (4, .pin plp), (5, .cells [.opq 0, ii x.n.inp, .opq 1] 25), (31, .row 8 x.n.N.length ((x.n.N.flatMap Prm.vals).map .v) 60), (32, .row 4 x.n.S.length ((x.n.S.flatMap Syn.vals).map .v) 55), (33, .row 2 x.n.N.length ((List.replicate x.n.N.length ste0).flatMap Ste.cells) 139), (34, .row 10 x.rs.length ((x.rs.flatMap Rul.vals).map .v) 36), (35, .row 1 x.pl.length ((ints x.pl).map .v) 3), (0, .rwin 8 x.n.N.length (x.n.N.flatMap Prm.vals)), (1, .rwin 4 x.n.S.length (x.n.S.flatMap Syn.vals)), (2, .rwin 10 x.rs.length (x.rs.flatMap Rul.vals)), (3, .rwin 1 x.pl.length (ints x.pl))]) (rq [(36, 64), (64, 36)]) 54 ?_ ?_ ?_ ?_ (ih trivial)
    · intro i hi j hj hne he
      have inv : ∀ i, i < 54 → rq [(36, 64), (64, 36)] (rq [(36, 64), (64, 36)] i) = i := by decide
      exact hne (by rw [← inv i hi, he, inv j hj])
    · exact ⟨⟨rfl, (show 30 < 54 by decide)⟩, ⟨rfl, (show 5 < 54 by decide)⟩, ⟨rfl, (show 1 < 54 by decide)⟩, ⟨rfl, trivial⟩, ⟨congrArg some (congrArg ii (wrap_succ (by omega))), trivial⟩, trivial⟩
    · exact ⟨⟨by rw [oren_fix (S := fun _ => False) (fun i hi => hi.elim) (o := .row 4 (i + 1) ((x.m0.take (i + 1)).flatMap Mrk.cells) 84) (scs_marks _ _), m0_succ x hi]; rfl, by omega, scs_marks _ _⟩, ⟨rfl, by omega, by simp [SObj.sc, SV.scs, SV.sc]⟩, ⟨congrArg some (pin_fix hcov (fun i hi => rq_fix (rq_noneB (B := 4) rfl hi))).symm, by omega, fun p hp => Nat.lt_of_lt_of_le (hcov.1 p hp) (show 4 ≤ 54 by decide)⟩, ⟨rfl, by omega, by simp [SObj.sc, SV.scs, SV.sc]⟩, ⟨congrArg some (oren_fix (S := fun _ => False) (fun i hi => hi.elim) (o := .row 8 x.n.N.length ((x.n.N.flatMap Prm.vals).map .v) 60) (scs_v _ _)).symm, by omega, scs_v _ _⟩, ⟨congrArg some (oren_fix (S := fun _ => False) (fun i hi => hi.elim) (o := .row 4 x.n.S.length ((x.n.S.flatMap Syn.vals).map .v) 55) (scs_v _ _)).symm, by omega, scs_v _ _⟩, ⟨congrArg some (oren_fix (S := fun _ => False) (fun i hi => hi.elim) (o := .row 2 x.n.N.length ((List.replicate x.n.N.length ste0).flatMap Ste.cells) 139) (scs_st _ _)).symm, by omega, scs_st _ _⟩, ⟨congrArg some (oren_fix (S := fun _ => False) (fun i hi => hi.elim) (o := .row 10 x.rs.length ((x.rs.flatMap Rul.vals).map .v) 36) (scs_v _ _)).symm, by omega, scs_v _ _⟩, ⟨congrArg some (oren_fix (S := fun _ => False) (fun i hi => hi.elim) (o := .row 1 x.pl.length ((ints x.pl).map .v) 3) (scs_v _ _)).symm, by omega, scs_v _ _⟩, ⟨rfl, by omega, trivial⟩, ⟨rfl, by omega, trivial⟩, ⟨rfl, by omega, trivial⟩, ⟨rfl, by omega, trivial⟩, trivial⟩
    · intro p hp
      have := hLB p hp; exact ⟨rq_fix (rq_noneB (B := 4) rfl this), by omega⟩
  · intro hJ
    refine Run.of_wpK (hc w L0 none (fun _ h => by cases h)) 1000 _ ?_
    conv => whnf
    rw [decide_eq_false (show ¬ ((x.n.S.length : Nat) : Int) < (x.n.S.length : Int) by omega)]
    conv => whnf
    have hm0l : x.m0.length = x.n.S.length := by simp [Lnt.m0]
    rw [show x.m0.take x.n.S.length = x.m0 by rw [← hm0l, List.take_length]]
    have hsum := sums_spec (ii 0) x.n.inp (fun _ => .v (.map none)) (.v (.map none)) x.n.S x.rs x.pl x.m0 (by simp [lcells, SV.scs, SV.sc]) hx4 hm0l hx.p1 hx2
    unfold sumM at hsum
    rw [hm0l] at hsum
    refine Run.callR (vs := [.ptr 0 0]) (caps := []) (caps2 := []) hsum (ent _ _ Try.func66 (by kernel_rfl) rfl) rfl rfl rfl rfl rfl rfl [.ptr 30 0] rfl (fun i => 30 + i) rfl (fun i hi => by omega) (fun i hi j hj hne => by omega) (by decide)
      ⟨⟨by omega, by simp [lcells, SObj.sc, SV.scs, SV.sc], ⟨_, rfl, Conv.refl _⟩, .inr (by simp), fun h => by cases h⟩, ⟨by omega, trivial, ⟨_, rfl, Conv.row (by decide) rfl⟩, .inl rfl, fun _ => by simp⟩, ⟨by omega, trivial, ⟨_, rfl, Conv.row (by decide) rfl⟩, .inl rfl, fun _ => by simp⟩, ⟨by omega, trivial, ⟨_, rfl, Conv.row (by decide) rfl⟩, .inl rfl, fun _ => by simp⟩, ⟨by omega, trivial, ⟨_, rfl, Conv.row (by decide) (marks_v _)⟩, .inl rfl, fun _ => by simp⟩, trivial⟩ (fun i hi => by simp at hi; subst hi; exact ⟨by omega, _, rfl⟩) (.mp 54) [(54, .kmap true true x.tot), (36, .row 4 x.n.S.length (x.m0.flatMap Mrk.cells) 84), (30, .cells [ii 0, .opq 31, ii x.n.inp, .opq 32, .opq 33, .v (.map none), .v (.map none), .v (.map none), .v (.map none), .v (.map none), .v (.map none), .v (.map none), .v (.map none), .v (.map none), .v (.map none), .v (.map none), .v (.map none), .v (.map none), .v (.map none), .v (.map none), .v (.map none), .opq 34, .opq 35, .opq 36, .v (.map none)] 96), (4, .pin plp), (5, .cells [.opq 0, ii x.n.inp, .opq 1] 25), (31, .row 8 x.n.N.length ((x.n.N.flatMap Prm.vals).map .v) 60), (32, .row 4 x.n.S.length ((x.n.S.flatMap Syn.vals).map .v) 55), (33, .row 2 x.n.N.length ((List.replicate x.n.N.length ste0).flatMap Ste.cells) 139), (34, .row 10 x.rs.length ((x.rs.flatMap Rul.vals).map .v) 36), (35, .row 1 x.pl.length ((ints x.pl).map .v) 3), (0, .rwin 8 x.n.N.length (x.n.N.flatMap Prm.vals)), (1, .rwin 4 x.n.S.length (x.n.S.flatMap Syn.vals)), (2, .rwin 10 x.rs.length (x.rs.flatMap Rul.vals)), (3, .rwin 1 x.pl.length (ints x.pl))] 55 rfl rfl
      ⟨.inr ⟨24, _, rfl, rfl, rfl, rfl⟩, .inl ⟨rfl, fun i hi => by simp at hi; subst hi; exact (show (30 : Nat) ≠ 36 by decide)⟩, .inr ⟨0, _, rfl, rfl, rfl, rfl⟩, .inl ⟨rfl, fun i hi => by simp at hi; subst hi; exact (show (30 : Nat) ≠ 4 by decide)⟩, .inl ⟨rfl, fun i hi => by simp at hi; subst hi; exact (show (30 : Nat) ≠ 5 by decide)⟩, .inl ⟨rfl, fun i hi => by simp at hi; subst hi; exact (show (30 : Nat) ≠ 31 by decide)⟩, .inl ⟨rfl, fun i hi => by simp at hi; subst hi; exact (show (30 : Nat) ≠ 32 by decide)⟩, .inl ⟨rfl, fun i hi => by simp at hi; subst hi; exact (show (30 : Nat) ≠ 33 by decide)⟩, .inl ⟨rfl, fun i hi => by simp at hi; subst hi; exact (show (30 : Nat) ≠ 34 by decide)⟩, .inl ⟨rfl, fun i hi => by simp at hi; subst hi; exact (show (30 : Nat) ≠ 35 by decide)⟩, .inl ⟨rfl, fun i hi => by simp at hi; subst hi; exact (show (30 : Nat) ≠ 0 by decide)⟩, .inl ⟨rfl, fun i hi => by simp at hi; subst hi; exact (show (30 : Nat) ≠ 1 by decide)⟩, .inl ⟨rfl, fun i hi => by simp at hi; subst hi; exact (show (30 : Nat) ≠ 2 by decide)⟩, .inl ⟨rfl, fun i hi => by simp at hi; subst hi; exact (show (30 : Nat) ≠ 3 by decide)⟩, trivial⟩ ?_
    refine Run.nils (T' := [(9, .ptr 30 0), (66, .ptr 30 0), (68, .mp 54)]) (M' := ((55, .kmap false false []) :: (56, .kmap false false []) :: (57, .kmap false false []) :: (58, .kmap false false []) :: (59, .kmap false false []) :: (60, .kmap false false []) :: (61, .kmap false false []) :: (62, .kmap false false []) :: (63, .kmap false false []) :: (64, .kmap false false []) :: (65, .kmap false false []) :: (66, .kmap false false []) :: (67, .kmap false false []) :: (68, .kmap false false []) :: (69, .kmap false false []) :: (70, .kmap false false []) :: (30, .cells [ii 0, .opq 31, ii x.n.inp, .opq 32, .opq 33, .mp 55, .mp 56, .mp 57, .mp 58, .mp 59, .mp 60, .mp 61, .mp 62, .mp 63, .mp 64, .mp 65, .mp 66, .mp 67, .mp 68, .mp 69, .mp 70, .opq 34, .opq 35, .opq 36, .v (.map none)] 96) :: (54, .kmap true true x.tot) :: (36, .row 4 x.n.S.length (x.m0.flatMap Mrk.cells) 84) :: (4, .pin plp) :: (5, .cells [.opq 0, ii x.n.inp, .opq 1] 25) :: (31, .row 8 x.n.N.length ((x.n.N.flatMap Prm.vals).map .v) 60) :: (32, .row 4 x.n.S.length ((x.n.S.flatMap Syn.vals).map .v) 55) :: (33, .row 2 x.n.N.length ((List.replicate x.n.N.length ste0).flatMap Ste.cells) 139) :: (34, .row 10 x.rs.length ((x.rs.flatMap Rul.vals).map .v) 36) :: (35, .row 1 x.pl.length ((ints x.pl).map .v) 3) :: (0, .rwin 8 x.n.N.length (x.n.N.flatMap Prm.vals)) :: (1, .rwin 4 x.n.S.length (x.n.S.flatMap Syn.vals)) :: (2, .rwin 10 x.rs.length (x.rs.flatMap Rul.vals)) :: (3, .rwin 1 x.pl.length (ints x.pl)) :: [])) 16 (fun _ => .kmap false false []) (fun _ _ => .inr ⟨_, rfl⟩) ⟨⟨_, rfl, .inl rfl⟩, ⟨_, rfl, .inl rfl⟩, ⟨_, rfl, .inl rfl⟩, trivial⟩ ⟨.inl ⟨0, by decide, rfl⟩, .inl ⟨1, by decide, rfl⟩, .inl ⟨2, by decide, rfl⟩, .inl ⟨3, by decide, rfl⟩, .inl ⟨4, by decide, rfl⟩, .inl ⟨5, by decide, rfl⟩, .inl ⟨6, by decide, rfl⟩, .inl ⟨7, by decide, rfl⟩, .inl ⟨8, by decide, rfl⟩, .inl ⟨9, by decide, rfl⟩, .inl ⟨10, by decide, rfl⟩, .inl ⟨11, by decide, rfl⟩, .inl ⟨12, by decide, rfl⟩, .inl ⟨13, by decide, rfl⟩, .inl ⟨14, by decide, rfl⟩, .inl ⟨15, by decide, rfl⟩, .inr ⟨_, rfl, .inr ⟨_, _, _, rfl, rfl, ⟨.inl rfl, .inl rfl, .inl rfl, .inl rfl, .inl rfl, .inr (.inr ⟨rfl, 0, by decide, rfl, rfl⟩), .inr (.inr ⟨rfl, 1, by decide, rfl, rfl⟩), .inr (.inr ⟨rfl, 2, by decide, rfl, rfl⟩), .inr (.inr ⟨rfl, 3, by decide, rfl, rfl⟩), .inr (.inr ⟨rfl, 4, by decide, rfl, rfl⟩), .inr (.inr ⟨rfl, 5, by decide, rfl, rfl⟩), .inr (.inr ⟨rfl, 6, by decide, rfl, rfl⟩), .inr (.inr ⟨rfl, 7, by decide, rfl, rfl⟩), .inr (.inr ⟨rfl, 8, by decide, rfl, rfl⟩), .inr (.inr ⟨rfl, 9, by decide, rfl, rfl⟩), .inr (.inr ⟨rfl, 10, by decide, rfl, rfl⟩), .inr (.inr ⟨rfl, 11, by decide, rfl, rfl⟩), .inr (.inr ⟨rfl, 12, by decide, rfl, rfl⟩), .inr (.inr ⟨rfl, 13, by decide, rfl, rfl⟩), .inr (.inr ⟨rfl, 14, by decide, rfl, rfl⟩), .inr (.inr ⟨rfl, 15, by decide, rfl, rfl⟩), .inl rfl, .inl rfl, .inl rfl, .inl rfl, trivial⟩⟩⟩, .inr ⟨_, rfl, .inl rfl⟩, .inr ⟨_, rfl, .inl rfl⟩, .inr ⟨_, rfl, .inl rfl⟩, .inr ⟨_, rfl, .inl rfl⟩, .inr ⟨_, rfl, .inl rfl⟩, .inr ⟨_, rfl, .inl rfl⟩, .inr ⟨_, rfl, .inl rfl⟩, .inr ⟨_, rfl, .inl rfl⟩, .inr ⟨_, rfl, .inl rfl⟩, .inr ⟨_, rfl, .inl rfl⟩, .inr ⟨_, rfl, .inl rfl⟩, .inr ⟨_, rfl, .inl rfl⟩, .inr ⟨_, rfl, .inl rfl⟩, trivial⟩ ?_
    refine Run.of_wpK (hc w L0 none (fun _ h => by cases h)) 1000 _ ?_
    conv => whnf
    refine SpecR.introQ (rq [(4, 30), (5, 31), (6, 32), (7, 33), (8, 34), (9, 35), (10, 36), (11, 54), (12, 55), (13, 56), (14, 57), (15, 58), (16, 59), (17, 60), (18, 61), (19, 62), (20, 63), (21, 64), (22, 65), (23, 66), (24, 67), (25, 68), (26, 69), (27, 70)]) (fun i hi => rq_fix (rq_noneB (B := 4) rfl hi)) ?_ (Widens.refl _ _) hLB (by decide) hcov rfl rfl ⟨(show 4 < 28 by decide), trivial, trivial⟩ ?_
    · intro i hi j hj hne
      have inj : ∀ i, i < 28 → ∀ j, j < 28 → i ≠ j → rq [(4, 30), (5, 31), (6, 32), (7, 33), (8, 34), (9, 35), (10, 36), (11, 54), (12, 55), (13, 56), (14, 57), (15, 58), (16, 59), (17, 60), (18, 61), (19, 62), (20, 63), (21, 64), (22, 65), (23, 66), (24, 67), (25, 68), (26, 69), (27, 70)] i ≠ rq [(4, 30), (5, 31), (6, 32), (7, 33), (8, 34), (9, 35), (10, 36), (11, 54), (12, 55), (13, 56), (14, 57), (15, 58), (16, 59), (17, 60), (18, 61), (19, 62), (20, 63), (21, 64), (22, 65), (23, 66), (24, 67), (25, 68), (26, 69), (27, 70)] j := by decide
      exact inj i hi j hj hne
    · exact ⟨⟨rfl, by omega, by simp [SObj.sc, SV.scs, SV.sc]⟩, ⟨congrArg some (oren_fix (S := fun _ => False) (fun i hi => hi.elim) (o := .row 8 x.n.N.length ((x.n.N.flatMap Prm.vals).map .v) 60) (scs_v _ _)).symm, by omega, scs_v _ _⟩, ⟨congrArg some (oren_fix (S := fun _ => False) (fun i hi => hi.elim) (o := .row 4 x.n.S.length ((x.n.S.flatMap Syn.vals).map .v) 55) (scs_v _ _)).symm, by omega, scs_v _ _⟩, ⟨congrArg some (oren_fix (S := fun _ => False) (fun i hi => hi.elim) (o := .row 2 x.n.N.length ((List.replicate x.n.N.length ste0).flatMap Ste.cells) 139) (scs_st _ _)).symm, by omega, scs_st _ _⟩, ⟨congrArg some (oren_fix (S := fun _ => False) (fun i hi => hi.elim) (o := .row 10 x.rs.length ((x.rs.flatMap Rul.vals).map .v) 36) (scs_v _ _)).symm, by omega, scs_v _ _⟩, ⟨congrArg some (oren_fix (S := fun _ => False) (fun i hi => hi.elim) (o := .row 1 x.pl.length ((ints x.pl).map .v) 3) (scs_v _ _)).symm, by omega, scs_v _ _⟩, ⟨congrArg some (oren_fix (S := fun _ => False) (fun i hi => hi.elim) (o := .row 4 x.n.S.length (x.m0.flatMap Mrk.cells) 84) (scs_marks _ _)).symm, by omega, scs_marks _ _⟩, ⟨rfl, by omega, trivial⟩, ⟨rfl, by omega, trivial⟩, ⟨rfl, by omega, trivial⟩, ⟨rfl, by omega, trivial⟩, ⟨rfl, by omega, trivial⟩, ⟨rfl, by omega, trivial⟩, ⟨rfl, by omega, trivial⟩, ⟨rfl, by omega, trivial⟩, ⟨rfl, by omega, trivial⟩, ⟨rfl, by omega, trivial⟩, ⟨rfl, by omega, trivial⟩, ⟨rfl, by omega, trivial⟩, ⟨rfl, by omega, trivial⟩, ⟨rfl, by omega, trivial⟩, ⟨rfl, by omega, trivial⟩, ⟨rfl, by omega, trivial⟩, ⟨rfl, by omega, trivial⟩, trivial⟩
end Go.Proofs.Ytnnlpdgnlccbjaa
namespace Go.Proofs.Ytnnlpdgnlccbjaa
open Go.Sx
set_option maxRecDepth 100000
set_option maxHeartbeats 4000000
theorem syns_v (l : List Syn) : l.flatMap Syn.cells = (l.flatMap Syn.vals).map .v := by
  induction l with
  | nil => rfl
  | cons a l ih => rw [List.flatMap_cons, List.flatMap_cons, List.map_append, ih]; rfl
theorem scs_syns (S : Nat → Prop) (l : List Syn) : SV.scs S (l.flatMap Syn.cells) := by rw [syns_v]; exact scs_v _ _
def nowSt (m : List Mrk) (l : List Syn) (i : Nat) : List Syn := l.set i { l.getD i syn0 with w := (m.getD i mrk0).w }
def nowY (S : List Syn) (m : List Mrk) (j : Nat) : List Syn := (List.range j).foldl (nowSt m) S
def nowL (S : List Syn) (m : List Mrk) : List Syn := nowY S m m.length
theorem nowY_succ (S : List Syn) (m : List Mrk) (j : Nat) : nowY S m (j + 1) = nowSt m (nowY S m j) j := range_fold ..
theorem nowY_len (S : List Syn) (m : List Mrk) : ∀ j, (nowY S m j).length = S.length
  | 0 => rfl
  | j + 1 => by
    rw [nowY_succ]
    have := nowY_len S m j
    simp [nowSt, this]
abbrev pfNow : PF := [(64 + 1000, FCl 8 60), (65 + 1000, FCl 4 55)]
theorem pfNow_ok : PF.oks Try.prog pfNow := ⟨mk_params, mk_syns, trivial⟩
/-- What now looks at. -/
def nowM (C : List SV) (N : List Prm) (S : List Syn) (m : List Mrk) : List (Nat × SObj) := [(0, .cells C 96), (1, .rwin 8 N.length (N.flatMap Prm.vals)), (2, .rwin 4 S.length (S.flatMap Syn.vals)), (6, .rwin 4 m.length (m.flatMap Mrk.vals))]
theorem now_spec (tk : SV) (inp : Int) (rg : Nat → SV) (tt : SV) (N : List Prm) (S : List Syn) (m : List Mrk) (hsc : SV.scs (· < 24) (lcells tk inp rg tt)) (hm : m.length = S.length) (hS : S.length ≤ 8192) (hN : N.length ≤ 1024) :
    BSpec Try.prog 53 [.ptr 0 0] (nowM (lcells tk inp rg tt) N S m) 24 [0] (.agg [.opq 24, ii inp, .opq 25])
      [(24, .row 8 N.length ((N.flatMap Prm.vals).map .v) 60), (25, .row 4 S.length ((nowL S m).flatMap Syn.cells) 55), (0, .cells (lcells tk inp rg tt) 96)] 26 := by
  have hc : ∀ w L' rd, (∀ p, rd = some p → p ∈ L') → Cx.ok ⟨Try.prog, tab, pfNow, 53, Try.f53, [], w, L', rd⟩ := fun w L' rd h => ⟨tab_ok, pfNow_ok, Try.func53, mixed, h⟩
  refine BSpec.start (tab := tab) (pf := pfNow) (cuts := []) Try.func53 rfl ⟨(show 0 < 24 by decide), trivial⟩ rfl fun w L0 plp hL hLB hcov => Run.of_wpK (hc w L0 none (fun _ h => by cases h)) 100 _ ?_
  conv => whnf
  refine Run.draw (hc w L0 none (fun _ h => by cases h)) 23 ?_
  rw [show upto 0 23 = upto 0 7 ++ (upto 7 13 ++ upto 20 3) from rfl]
  simp only [drawK_app]
  conv => whnf
  rw [opF_callM (F := FCl 8 60) rfl rfl rfl rfl rfl (FCl_win rfl (by omega) (one_prm _))]
  conv => whnf
  rw [opF_callM (F := FCl 4 55) rfl rfl rfl rfl rfl (FCl_win rfl (by omega) (one_syn _))]
  conv => whnf
  refine ⟨by kernel_rfl, ?_⟩
  refine Run.of_wpK (hc w L0 none (fun _ h => by cases h)) 1000 _ ?_
  conv => whnf
  refine Run.trim (T' := [(2, .ptr 25 0), (3, .ptr 47 0), (30, .opq 6), (31, ii (m.length : Int)), (32, ii (((0 : Nat) : Nat) : Int))]) (M' := [(45, .row 4 S.length ((nowY S m (0 : Nat)).flatMap Syn.cells) 55), (47, .cells [.opq 32, ii inp, .opq 45] 25), (32, .row 8 N.length ((N.flatMap Prm.vals).map .v) 60), (25, .cells [.v (.slice none 0 0), ii 0, .v (.slice none 0 0)] 25), (24, .pin plp), (0, .cells (lcells tk inp rg tt) 96), (1, .rwin 8 N.length (N.flatMap Prm.vals)), (2, .rwin 4 S.length (S.flatMap Syn.vals)), (6, .rwin 4 m.length (m.flatMap Mrk.vals))]) 49 ?_ ?_ (fun p hp => by have := hLB p hp; omega) ?_
  · exact ⟨⟨rfl, (show 25 < 49 by decide)⟩, ⟨rfl, (show 47 < 49 by decide)⟩, ⟨rfl, (show 6 < 49 by decide)⟩, ⟨rfl, trivial⟩, ⟨rfl, trivial⟩, trivial⟩
  · exact ⟨⟨by rw [show nowY S m 0 = S from rfl, syns_v]; rfl, by omega, scs_syns _ _⟩, ⟨rfl, (show 47 < 49 by decide), by simp [SObj.sc, SV.scs, SV.sc]⟩, ⟨rfl, by omega, scs_v _ _⟩, ⟨rfl, (show 25 < 49 by decide), by simp [SObj.sc, SV.scs, SV.sc]⟩, ⟨rfl, by omega, fun p hp => Nat.lt_of_lt_of_le (hcov.1 p hp) (show 24 ≤ 49 by decide)⟩, ⟨rfl, by omega, SV.scs_lt (by decide) hsc⟩, ⟨rfl, (show 1 < 49 by decide), trivial⟩, ⟨rfl, (show 2 < 49 by decide), trivial⟩, ⟨rfl, (show 6 < 49 by decide), trivial⟩, trivial⟩
  refine Run.upToJ (T := fun i => [(2, .ptr 25 0), (3, .ptr 47 0), (30, .opq 6), (31, ii (m.length : Int)), (32, ii ((i : Nat) : Int))]) (M := fun i => [(45, .row 4 S.length ((nowY S m i).flatMap Syn.cells) 55), (47, .cells [.opq 32, ii inp, .opq 45] 25), (32, .row 8 N.length ((N.flatMap Prm.vals).map .v) 60), (25, .cells [.v (.slice none 0 0), ii 0, .v (.slice none 0 0)] 25), (24, .pin plp), (0, .cells (lcells tk inp rg tt) 96), (1, .rwin 8 N.length (N.flatMap Prm.vals)), (2, .rwin 4 S.length (S.flatMap Syn.vals)), (6, .rwin 4 m.length (m.flatMap Mrk.vals))]) (fun _ => True) (m.length) trivial ?_ ?_
  · intro i hi hJ ih
    refine Run.of_wpK (hc w L0 none (fun _ h => by cases h)) 1000 _ ?_
    conv => whnf
    rw [decide_eq_true (show ((i : Nat) : Int) < (m.length : Int) by omega)]
    conv => whnf
    refine ⟨by omega, ?_⟩
    conv => whnf
    rw [opF_loadW (f := Mrk.vals) (l := m) i rfl rfl rfl rfl rfl Mrk.vlen (by rw [idx_nat]) hi]
    conv => whnf
    have hlY := nowY_len S m i
    have hiY : i < (nowY S m i).length := by omega
    have hgY : (nowY S m i).getD i syn0 = (nowY S m i)[i] := by simp [List.getD_eq_getElem?_getD, hiY]
    have hgm : m.getD i mrk0 = m[i] := by simp [List.getD_eq_getElem?_getD, hi]
    refine ⟨by omega, ?_⟩
    conv => whnf
    rw [opF_storeRf (f := Syn.cells) (l := nowY S m i) i 2 { (nowY S m i)[i] with w := m[i].w } rfl rfl rfl rfl rfl Syn.clen (by rw [idx_nat]) hiY (by decide) rfl rfl rfl]
    rw [show (nowY S m i).set i { (nowY S m i)[i] with w := m[i].w } = nowY S m (i + 1) by rw [nowY_succ]; unfold nowSt; rw [hgY, hgm]]
    conv => whnf
    refine Run.trim (T' := [(2, .ptr 25 0), (3, .ptr 47 0), (30, .opq 6), (31, ii (m.length : Int)), (32, ii (((i + 1 : Nat) : Nat) : Int))]) (M' := [(45, .row 4 S.length ((nowY S m (i + 1 : Nat)).flatMap Syn.cells) 55), (47, .cells [.opq 32, ii inp, .opq 45] 25), (32, .row 8 N.length ((N.flatMap Prm.vals).map .v) 60), (25, .cells [.v (.slice none 0 0), ii 0, .v (.slice none 0 0)] 25), (24, .pin plp), (0, .cells (lcells tk inp rg tt) 96), (1, .rwin 8 N.length (N.flatMap Prm.vals)), (2, .rwin 4 S.length (S.flatMap Syn.vals)), (6, .rwin 4 m.length (m.flatMap Mrk.vals))]) 49 ?_ ?_ (fun p hp => by have := hLB p hp; omega) (ih trivial)
    · exact ⟨⟨rfl, (show 25 < 49 by decide)⟩, ⟨rfl, (show 47 < 49 by decide)⟩, ⟨rfl, (show 6 < 49 by decide)⟩, ⟨rfl, trivial⟩, ⟨congrArg some (congrArg ii (wrap_succ (by omega))), trivial⟩, trivial⟩
    · exact ⟨⟨rfl, by omega, scs_syns _ _⟩, ⟨rfl, (show 47 < 49 by decide), by simp [SObj.sc, SV.scs, SV.sc]⟩, ⟨rfl, by omega, scs_v _ _⟩, ⟨rfl, (show 25 < 49 by decide), by simp [SObj.sc, SV.scs, SV.sc]⟩, ⟨rfl, by omega, fun p hp => Nat.lt_of_lt_of_le (hcov.1 p hp) (show 24 ≤ 49 by decide)⟩, ⟨rfl, by omega, SV.scs_lt (by decide) hsc⟩, ⟨rfl, (show 1 < 49 by decide), trivial⟩, ⟨rfl, (show 2 < 49 by decide), trivial⟩, ⟨rfl, (show 6 < 49 by decide), trivial⟩, trivial⟩
  · intro hJ
    refine Run.of_wpK (hc w L0 none (fun _ h => by cases h)) 1000 _ ?_
    conv => whnf
    rw [decide_eq_false (show ¬ ((m.length : Nat) : Int) < (m.length : Int) by omega)]
    conv => whnf
    refine SpecR.introQ (rq [(24, 32), (25, 45)]) (fun i hi => rq_fix (rq_noneB (B := 24) rfl hi)) ?_ (Widens.refl _ _) hLB (by decide) hcov rfl rfl ⟨(show 24 < 26 by decide), trivial, (show 25 < 26 by decide), trivial⟩ ?_
    · intro i hi j hj hne
      have inj : ∀ i, i < 26 → ∀ j, j < 26 → i ≠ j → rq [(24, 32), (25, 45)] i ≠ rq [(24, 32), (25, 45)] j := by decide
      exact inj i hi j hj hne
    · exact ⟨⟨by rw [oren_fix (S := fun _ => False) (fun i hi => hi.elim) (o := .row 8 N.length ((N.flatMap Prm.vals).map .v) 60) (scs_v _ _)]; rfl, by omega, scs_v _ _⟩, ⟨by rw [oren_fix (S := fun _ => False) (fun i hi => hi.elim) (o := .row 4 S.length ((nowL S m).flatMap Syn.cells) 55) (scs_syns _ _)]; rfl, by omega, scs_syns _ _⟩,
        ⟨by rw [oren_fix (S := (· < 24)) (fun i hi => rq_fix (rq_noneB (B := 24) rfl hi)) (o := .cells (lcells tk inp rg tt) 96) hsc]; rfl, by omega, SV.scs_lt (by decide) hsc⟩, trivial⟩
end Go.Proofs.Ytnnlpdgnlccbjaa
namespace Go.Proofs.Ytnnlpdgnlccbjaa
open Go.Sx
set_option maxRecDepth 100000
set_option maxHeartbeats 2000000
/-- An event: its tick, and its input or neuron. -/
structure Evt where
  tick : Int
  id : Int
  deriving DecidableEq
def Evt.vals (x : Evt) : List Value := [.int .i64 x.tick, .int .i64 x.id]
def Evt.cells (x : Evt) : List SV := [ii x.tick, ii x.id]
theorem Evt.vlen (x : Evt) : x.vals.length = 2 := rfl
theorem Evt.clen (x : Evt) : x.cells.length = 2 := rfl
/-- A prize: its tick, its rule, its value. -/
structure Prz where
  tick : Int
  id : Int
  val : Int
  deriving DecidableEq
def Prz.vals (x : Prz) : List Value := [.int .i64 x.tick, .int .i64 x.id, .int .i64 x.val]
theorem Prz.vlen (x : Prz) : x.vals.length = 3 := rfl
def evt0 : Evt := ⟨0, 0⟩
def prz0 : Prz := ⟨0, 0, 0⟩
/-- The error of an event of a list. -/
def evAt (inp lim : Int) (l : List Evt) (i : Nat) : Int :=
  if (wi (l.getD i evt0).tick 0 (W (lim - 1)) && wi (l.getD i evt0).id 0 (W (inp - 1))) = false then 3
  else if 0 < i ∧ ((l.getD i evt0).tick < (l.getD (i - 1) evt0).tick ∨ (l.getD i evt0).tick = (l.getD (i - 1) evt0).tick ∧ (l.getD i evt0).id ≤ (l.getD (i - 1) evt0).id) then 2 else 0
def evsChk (inp lim : Int) (l : List Evt) : Int := if 65536 < (l.length : Int) then 9 else firstE (evAt inp lim l) (List.range l.length)
def pzAt (rules : Int) (l : List Prz) (i : Nat) : Int :=
  if (wi (l.getD i prz0).tick 0 9999 && wi (l.getD i prz0).id 0 (W (rules - 1)) && wi (l.getD i prz0).val (-128) 127) = false then 3
  else if 0 < i ∧ ((l.getD i prz0).tick < (l.getD (i - 1) prz0).tick ∨ (l.getD i prz0).tick = (l.getD (i - 1) prz0).tick ∧ (l.getD i prz0).id ≤ (l.getD (i - 1) prz0).id) then 2 else 0
def pzsChk (rules : Int) (l : List Prz) : Int := if 65536 < (l.length : Int) then 9 else firstE (pzAt rules l) (List.range l.length)
theorem firstN_at {f : Nat → Int} {n i : Nat} (hi : i < n) (h0 : ∀ j, j < n → j < i → f j = 0) (h : f i ≠ 0) : firstE f (List.range n) = f i := by
  have hl : i < (List.range n).length := by simpa using hi
  have := firstE_at (f := f) hl (fun j hj hji => by simpa using h0 j (by simpa using hj) hji) (by simpa using h)
  simpa using this
theorem firstN_all {f : Nat → Int} {n : Nat} (h0 : ∀ j, j < n → f j = 0) : firstE f (List.range n) = 0 := firstE_all fun j hj => by simpa using h0 j (by simpa using hj)
theorem upN {n i : Nat} {P : Nat → Prop} (hJ : ∀ j, j < n → j < i → P j) (hp : P i) : ∀ j, j < n → j < i + 1 → P j := fun j hj hji => by
  rcases Nat.lt_or_ge j i with h | h
  · exact hJ j hj h
  · have : j = i := by omega
    subst this; exact hp
theorem nordered_run (vN vS : Value) (n : Net) (vE : Value) (l : List Evt) (lim : Int) (w : World) (hn : IsNet w vN vS n) (hr : RowsAt w vE 2 l.length (l.flatMap Evt.vals)) :
    Calls Try.prog 91 #[netV vN vS n, vE, .int .i64 lim] w fun e w' => e = .returned (.int .i64 (evsChk n.inp lim l)) ∧ Ext w w' := by
  have hc : ∀ L, Cx.ok ⟨Try.prog, tab, [(76, F3 fun n lo hi => .bool (wi n lo hi))], 91, Try.f91, [], w, L, none⟩ := fun L => ⟨tab_ok, ⟨nwithin_pure, trivial⟩, Try.func91, mixed, fun _ h => by cases h⟩
  obtain ⟨h1, h2⟩ := hn
  obtain ⟨N, inp, S⟩ := n
  simp only at h1 h2
  have hrows : AllP (fun x : Value × Nat × Nat × List Value => RowsAt w x.1 x.2.1 x.2.2.1 x.2.2.2) [(vN, 8, N.length, N.flatMap Prm.vals), (vS, 4, S.length, S.flatMap Syn.vals), (vE, 2, l.length, l.flatMap Evt.vals)] := ⟨h1, h2, hr, trivial⟩
  refine Run.startW Try.func91 rfl _ hrows [.agg [.opq 0, ii inp, .opq 1], .opq 2, ii lim] [netV vN vS ⟨N, inp, S⟩, vE, .int .i64 lim] [(0, .rwin 8 N.length (N.flatMap Prm.vals)), (1, .rwin 4 S.length (S.flatMap Syn.vals)), (2, .rwin 2 l.length (l.flatMap Evt.vals))] 3 rfl rfl
    (by show [Value.agg [(SV.opq 0).conc _, .int .i64 inp, (SV.opq 1).conc _].toArray, (SV.opq 2).conc _, .int .i64 lim] = _; rw [conc_rows hrows (k := 0) rfl, conc_rows hrows (k := 1) rfl, conc_rows hrows (k := 2) rfl]; rfl) (by simp [SV.scs, SV.sc]) rfl (Run.of_wpK (hc _) 1000 _ ?_)
  conv => whnf
  have fin : ∀ x : Int, evsChk inp lim l = x → ∀ {M : List (Nat × SObj)} {n : Nat} {c : Cx}, c.w0 = w → c.L = [] → RetOk c M n (.v (.int .i64 x)) (fun e w' => e = .returned (.int .i64 (evsChk inp lim l)) ∧ Ext w w') :=
    fun x hx M n c hw hL => ⟨fun ρ w' hW _ => ⟨by rw [hx]; rfl, by rw [hw, hL] at hW; exact hW.toExt⟩⟩
  cases e1 : decide (65536 < (l.length : Int))
  case true =>
    conv => whnf
    exact fin 9 (by unfold evsChk; rw [if_pos (of_decide_eq_true e1)]) rfl rfl
  have e1' := of_decide_eq_false e1
  conv => whnf
  refine Run.trim (T' := [(1, .opq 2), (2, ii lim), (3, .ptr 3 0), (6, ii 0), (12, .opq 2), (13, ii (l.length : Int)), (14, ii ((0 : Nat) : Int))]) (M' := [(3, .cells [.opq 0, ii inp, .opq 1] 25), (0, .rwin 8 N.length (N.flatMap Prm.vals)), (1, .rwin 4 S.length (S.flatMap Syn.vals)), (2, .rwin 2 l.length (l.flatMap Evt.vals))]) 4 ⟨⟨rfl, (show 2 < 4 by decide)⟩, ⟨rfl, trivial⟩, ⟨rfl, (show 3 < 4 by decide)⟩, ⟨rfl, trivial⟩, ⟨rfl, (show 2 < 4 by decide)⟩, ⟨rfl, trivial⟩, ⟨rfl, trivial⟩, trivial⟩ ⟨⟨rfl, (show 3 < 4 by decide), by simp [SObj.sc, SV.scs, SV.sc]⟩, ⟨rfl, (show 0 < 4 by decide), trivial⟩, ⟨rfl, (show 1 < 4 by decide), trivial⟩, ⟨rfl, (show 2 < 4 by decide), trivial⟩, trivial⟩ (fun q hq => by cases hq) ?_
  refine Run.upToJ (T := fun i => [(1, .opq 2), (2, ii lim), (3, .ptr 3 0), (6, ii 0), (12, .opq 2), (13, ii (l.length : Int)), (14, ii (i : Int))]) (M := fun i => [(3, .cells [.opq 0, ii inp, .opq 1] 25), (0, .rwin 8 N.length (N.flatMap Prm.vals)), (1, .rwin 4 S.length (S.flatMap Syn.vals)), (2, .rwin 2 l.length (l.flatMap Evt.vals))]) (fun i => ∀ j, j < l.length → j < i → evAt inp lim l j = 0) (l.length) ?_ ?_ ?_
  · exact fun j _ h => absurd h (Nat.not_lt_zero j)
  · intro i hi hJ ih
    refine Run.of_wpK (hc _) 1000 _ ?_
    conv => whnf
    rw [decide_eq_true (show ((i : Nat) : Int) < (l.length : Int) by omega)]
    conv => whnf
    have hgi : l.getD i evt0 = l[i] := by simp [List.getD_eq_getElem?_getD, hi]
    have three : ∀ x, evAt inp lim l i = x → x ≠ 0 → evsChk inp lim l = x := fun x hx hx0 => by
      unfold evsChk
      rw [if_neg e1', firstN_at hi (fun j hj hji => hJ j hj hji) (by rw [hx]; exact hx0), hx]
    refine ⟨by omega, ?_⟩
    conv => whnf
    rw [opF_loadW (f := Evt.vals) (l := l) i rfl rfl rfl rfl rfl Evt.vlen (by rw [idx_nat]) hi]
    conv => whnf
    cases b0 : wi l[i].tick 0 (IntKind.i64.wrap (lim - 1))
    case false =>
      conv => whnf
      exact fin 3 (three 3 (by unfold evAt W; rw [hgi, b0]; rfl) (by decide)) rfl rfl
    conv => whnf
    cases b1 : wi l[i].id 0 (IntKind.i64.wrap (inp - 1))
    case false =>
      conv => whnf
      exact fin 3 (three 3 (by unfold evAt W; rw [hgi, b0, b1]; rfl) (by decide)) rfl rfl
    conv => whnf
    refine Run.draw (hc _) 32 ?_
    rw [show upto 0 32 = upto 0 2 ++ (upto 2 7 ++ (upto 9 2 ++ (upto 11 1 ++ (upto 12 7 ++ (upto 19 2 ++ (upto 21 1 ++ (upto 22 7 ++ (upto 29 2 ++ upto 31 1)))))))) from rfl]
    simp only [drawK_app]
    conv => whnf
    cases b5 : decide ((0 : Int) < (i : Int))
    case false =>
      have hi0 := of_decide_eq_false b5
      conv => whnf
      refine ⟨by kernel_rfl, ?_⟩
      refine Run.of_wpK (hc _) 1000 _ ?_
      conv => whnf
      rw [wrap_succ (i := i) (by omega)]
      exact Run.trim (T' := [(1, .opq 2), (2, ii lim), (3, .ptr 3 0), (6, ii 0), (12, .opq 2), (13, ii (l.length : Int)), (14, ii ((i + 1 : Nat) : Int))]) (M' := [(3, .cells [.opq 0, ii inp, .opq 1] 25), (0, .rwin 8 N.length (N.flatMap Prm.vals)), (1, .rwin 4 S.length (S.flatMap Syn.vals)), (2, .rwin 2 l.length (l.flatMap Evt.vals))]) 4 ⟨⟨rfl, (show 2 < 4 by decide)⟩, ⟨rfl, trivial⟩, ⟨rfl, (show 3 < 4 by decide)⟩, ⟨rfl, trivial⟩, ⟨rfl, (show 2 < 4 by decide)⟩, ⟨rfl, trivial⟩, ⟨rfl, trivial⟩, trivial⟩ ⟨⟨rfl, (show 3 < 4 by decide), by simp [SObj.sc, SV.scs, SV.sc]⟩, ⟨rfl, (show 0 < 4 by decide), trivial⟩, ⟨rfl, (show 1 < 4 by decide), trivial⟩, ⟨rfl, (show 2 < 4 by decide), trivial⟩, trivial⟩ (fun q hq => by cases hq) (ih (upN hJ (by unfold evAt W; rw [hgi, b0, b1, if_neg (by decide), if_neg (fun h => hi0 (by omega))])))
    have hi0 : 0 < i := by have := of_decide_eq_true b5; omega
    have him : i - 1 < l.length := by omega
    have hgm : l.getD (i - 1) evt0 = l[i - 1] := by simp [List.getD_eq_getElem?_getD, him]
    have hwr : IntKind.i64.wrap ((i : Int) - 1) = ((i - 1 : Nat) : Int) := by
      have := W_id (a := (i : Int) - 1) (by omega) (by omega)
      have e : IntKind.i64.wrap ((i : Int) - 1) = (i : Int) - 1 := this
      omega
    conv => whnf
    rw [hwr]
    refine ⟨by omega, ?_⟩
    conv => whnf
    rw [opF_loadWf (f := Evt.vals) (l := l) (c := .int .i64 l[i - 1].tick) (i - 1) 0 rfl rfl rfl rfl Evt.vlen (by rw [idx_nat]) him (by decide) rfl]
    conv => whnf
    cases b6 : decide (l[i].tick < l[i - 1].tick)
    case true =>
      have b6' := of_decide_eq_true b6
      conv => whnf
      refine ⟨by kernel_rfl, ?_⟩
      refine Run.of_wpK (hc _) 1000 _ ?_
      conv => whnf
      exact fin 2 (three 2 (by unfold evAt W; rw [hgi, hgm, b0, b1, if_neg (by decide), if_pos ⟨hi0, .inl b6'⟩]) (by decide)) rfl rfl
    have b6' := of_decide_eq_false b6
    conv => whnf
    rw [hwr]
    refine ⟨by omega, ?_⟩
    conv => whnf
    rw [opF_loadWf (f := Evt.vals) (l := l) (c := .int .i64 l[i - 1].tick) (i - 1) 0 rfl rfl rfl rfl Evt.vlen (by rw [idx_nat]) him (by decide) rfl]
    conv => whnf
    cases b7 : (l[i].tick == l[i - 1].tick)
    case false =>
      have b7' : ¬ l[i].tick = l[i - 1].tick := by simpa using b7
      conv => whnf
      refine ⟨by kernel_rfl, ?_⟩
      refine Run.of_wpK (hc _) 1000 _ ?_
      conv => whnf
      rw [wrap_succ (i := i) (by omega)]
      exact Run.trim (T' := [(1, .opq 2), (2, ii lim), (3, .ptr 3 0), (6, ii 0), (12, .opq 2), (13, ii (l.length : Int)), (14, ii ((i + 1 : Nat) : Int))]) (M' := [(3, .cells [.opq 0, ii inp, .opq 1] 25), (0, .rwin 8 N.length (N.flatMap Prm.vals)), (1, .rwin 4 S.length (S.flatMap Syn.vals)), (2, .rwin 2 l.length (l.flatMap Evt.vals))]) 4 ⟨⟨rfl, (show 2 < 4 by decide)⟩, ⟨rfl, trivial⟩, ⟨rfl, (show 3 < 4 by decide)⟩, ⟨rfl, trivial⟩, ⟨rfl, (show 2 < 4 by decide)⟩, ⟨rfl, trivial⟩, ⟨rfl, trivial⟩, trivial⟩ ⟨⟨rfl, (show 3 < 4 by decide), by simp [SObj.sc, SV.scs, SV.sc]⟩, ⟨rfl, (show 0 < 4 by decide), trivial⟩, ⟨rfl, (show 1 < 4 by decide), trivial⟩, ⟨rfl, (show 2 < 4 by decide), trivial⟩, trivial⟩ (fun q hq => by cases hq) (ih (upN hJ (by unfold evAt W; rw [hgi, hgm, b0, b1, if_neg (by decide), if_neg (fun h => h.2.elim b6' fun h => b7' h.1)])))
    have b7' : l[i].tick = l[i - 1].tick := by simpa using b7
    conv => whnf
    rw [hwr]
    refine ⟨by omega, ?_⟩
    conv => whnf
    rw [opF_loadWf (f := Evt.vals) (l := l) (c := .int .i64 l[i - 1].id) (i - 1) 1 rfl rfl rfl rfl Evt.vlen (by rw [idx_nat]) him (by decide) rfl]
    conv => whnf
    cases b8 : decide (l[i].id ≤ l[i - 1].id)
    case true =>
      have b8' := of_decide_eq_true b8
      conv => whnf
      refine ⟨by kernel_rfl, ?_⟩
      refine Run.of_wpK (hc _) 1000 _ ?_
      conv => whnf
      exact fin 2 (three 2 (by unfold evAt W; rw [hgi, hgm, b0, b1, if_neg (by decide), if_pos ⟨hi0, .inr ⟨b7', b8'⟩⟩]) (by decide)) rfl rfl
    have b8' := of_decide_eq_false b8
    conv => whnf
    refine ⟨by kernel_rfl, ?_⟩
    refine Run.of_wpK (hc _) 1000 _ ?_
    conv => whnf
    rw [wrap_succ (i := i) (by omega)]
    exact Run.trim (T' := [(1, .opq 2), (2, ii lim), (3, .ptr 3 0), (6, ii 0), (12, .opq 2), (13, ii (l.length : Int)), (14, ii ((i + 1 : Nat) : Int))]) (M' := [(3, .cells [.opq 0, ii inp, .opq 1] 25), (0, .rwin 8 N.length (N.flatMap Prm.vals)), (1, .rwin 4 S.length (S.flatMap Syn.vals)), (2, .rwin 2 l.length (l.flatMap Evt.vals))]) 4 ⟨⟨rfl, (show 2 < 4 by decide)⟩, ⟨rfl, trivial⟩, ⟨rfl, (show 3 < 4 by decide)⟩, ⟨rfl, trivial⟩, ⟨rfl, (show 2 < 4 by decide)⟩, ⟨rfl, trivial⟩, ⟨rfl, trivial⟩, trivial⟩ ⟨⟨rfl, (show 3 < 4 by decide), by simp [SObj.sc, SV.scs, SV.sc]⟩, ⟨rfl, (show 0 < 4 by decide), trivial⟩, ⟨rfl, (show 1 < 4 by decide), trivial⟩, ⟨rfl, (show 2 < 4 by decide), trivial⟩, trivial⟩ (fun q hq => by cases hq) (ih (upN hJ (by unfold evAt W; rw [hgi, hgm, b0, b1, if_neg (by decide), if_neg (fun h => h.2.elim b6' fun h => b8' h.2)])))
  · intro hJ
    refine Run.of_wpK (hc _) 1000 _ ?_
    conv => whnf
    rw [decide_eq_false (show ¬ ((l.length : Nat) : Int) < (l.length : Int) by omega)]
    conv => whnf
    exact fin 0 (by unfold evsChk; rw [if_neg e1', firstN_all fun j hj => hJ j hj hj]) rfl rfl
theorem lordered_run (rules : Int) (vE : Value) (l : List Prz) (w : World) (hr : RowsAt w vE 3 l.length (l.flatMap Prz.vals)) :
    Calls Try.prog 51 #[.int .i64 rules, vE] w fun e w' => e = .returned (.int .i64 (pzsChk rules l)) ∧ Ext w w' := by
  have hc : ∀ L, Cx.ok ⟨Try.prog, tab, [(44, F3 fun n lo hi => .bool (wi n lo hi))], 51, Try.f51, [], w, L, none⟩ := fun L => ⟨tab_ok, ⟨lwithin_pure, trivial⟩, Try.func51, mixed, fun _ h => by cases h⟩
  have hrows : AllP (fun x : Value × Nat × Nat × List Value => RowsAt w x.1 x.2.1 x.2.2.1 x.2.2.2) [(vE, 3, l.length, l.flatMap Prz.vals)] := ⟨hr, trivial⟩
  refine Run.startW Try.func51 rfl _ hrows [ii rules, .opq 0] [.int .i64 rules, vE] [(0, .rwin 3 l.length (l.flatMap Prz.vals))] 1 rfl rfl
    (by show [Value.int .i64 rules, (SV.opq 0).conc _] = _; rw [conc_rows hrows (k := 0) rfl]) (by simp [SV.scs, SV.sc]) rfl (Run.of_wpK (hc _) 1000 _ ?_)
  conv => whnf
  have fin : ∀ x : Int, pzsChk rules l = x → ∀ {M : List (Nat × SObj)} {n : Nat} {c : Cx}, c.w0 = w → c.L = [] → RetOk c M n (.v (.int .i64 x)) (fun e w' => e = .returned (.int .i64 (pzsChk rules l)) ∧ Ext w w') :=
    fun x hx M n c hw hL => ⟨fun ρ w' hW _ => ⟨by rw [hx]; rfl, by rw [hw, hL] at hW; exact hW.toExt⟩⟩
  cases e1 : decide (65536 < (l.length : Int))
  case true =>
    conv => whnf
    exact fin 9 (by unfold pzsChk; rw [if_pos (of_decide_eq_true e1)]) rfl rfl
  have e1' := of_decide_eq_false e1
  conv => whnf
  refine Run.trim (T' := [(0, ii rules), (1, .opq 0), (4, ii 0), (10, .opq 0), (11, ii (l.length : Int)), (12, ii ((0 : Nat) : Int))]) (M' := [(0, .rwin 3 l.length (l.flatMap Prz.vals))]) 1 ⟨⟨rfl, trivial⟩, ⟨rfl, (show 0 < 1 by decide)⟩, ⟨rfl, trivial⟩, ⟨rfl, (show 0 < 1 by decide)⟩, ⟨rfl, trivial⟩, ⟨rfl, trivial⟩, trivial⟩ ⟨⟨rfl, (show 0 < 1 by decide), trivial⟩, trivial⟩ (fun q hq => by cases hq) ?_
  refine Run.upToJ (T := fun i => [(0, ii rules), (1, .opq 0), (4, ii 0), (10, .opq 0), (11, ii (l.length : Int)), (12, ii (i : Int))]) (M := fun i => [(0, .rwin 3 l.length (l.flatMap Prz.vals))]) (fun i => ∀ j, j < l.length → j < i → pzAt rules l j = 0) (l.length) ?_ ?_ ?_
  · exact fun j _ h => absurd h (Nat.not_lt_zero j)
  · intro i hi hJ ih
    refine Run.of_wpK (hc _) 1000 _ ?_
    conv => whnf
    rw [decide_eq_true (show ((i : Nat) : Int) < (l.length : Int) by omega)]
    conv => whnf
    have hgi : l.getD i prz0 = l[i] := by simp [List.getD_eq_getElem?_getD, hi]
    have three : ∀ x, pzAt rules l i = x → x ≠ 0 → pzsChk rules l = x := fun x hx hx0 => by
      unfold pzsChk
      rw [if_neg e1', firstN_at hi (fun j hj hji => hJ j hj hji) (by rw [hx]; exact hx0), hx]
    refine ⟨by omega, ?_⟩
    conv => whnf
    rw [opF_loadW (f := Prz.vals) (l := l) i rfl rfl rfl rfl rfl Prz.vlen (by rw [idx_nat]) hi]
    conv => whnf
    cases b0 : wi l[i].tick 0 9999
    case false =>
      conv => whnf
      exact fin 3 (three 3 (by unfold pzAt W; rw [hgi, b0]; rfl) (by decide)) rfl rfl
    conv => whnf
    cases b1 : wi l[i].id 0 (IntKind.i64.wrap (rules - 1))
    case false =>
      conv => whnf
      exact fin 3 (three 3 (by unfold pzAt W; rw [hgi, b0, b1]; rfl) (by decide)) rfl rfl
    conv => whnf
    cases b2 : wi l[i].val (-128) 127
    case false =>
      conv => whnf
      exact fin 3 (three 3 (by unfold pzAt W; rw [hgi, b0, b1, b2]; rfl) (by decide)) rfl rfl
    conv => whnf
    refine Run.draw (hc _) 32 ?_
    rw [show upto 0 32 = upto 0 2 ++ (upto 2 7 ++ (upto 9 2 ++ (upto 11 1 ++ (upto 12 7 ++ (upto 19 2 ++ (upto 21 1 ++ (upto 22 7 ++ (upto 29 2 ++ upto 31 1)))))))) from rfl]
    simp only [drawK_app]
    conv => whnf
    cases b5 : decide ((0 : Int) < (i : Int))
    case false =>
      have hi0 := of_decide_eq_false b5
      conv => whnf
      refine ⟨by kernel_rfl, ?_⟩
      refine Run.of_wpK (hc _) 1000 _ ?_
      conv => whnf
      rw [wrap_succ (i := i) (by omega)]
      exact Run.trim (T' := [(0, ii rules), (1, .opq 0), (4, ii 0), (10, .opq 0), (11, ii (l.length : Int)), (12, ii ((i + 1 : Nat) : Int))]) (M' := [(0, .rwin 3 l.length (l.flatMap Prz.vals))]) 1 ⟨⟨rfl, trivial⟩, ⟨rfl, (show 0 < 1 by decide)⟩, ⟨rfl, trivial⟩, ⟨rfl, (show 0 < 1 by decide)⟩, ⟨rfl, trivial⟩, ⟨rfl, trivial⟩, trivial⟩ ⟨⟨rfl, (show 0 < 1 by decide), trivial⟩, trivial⟩ (fun q hq => by cases hq) (ih (upN hJ (by unfold pzAt W; rw [hgi, b0, b1, b2, if_neg (by decide), if_neg (fun h => hi0 (by omega))])))
    have hi0 : 0 < i := by have := of_decide_eq_true b5; omega
    have him : i - 1 < l.length := by omega
    have hgm : l.getD (i - 1) prz0 = l[i - 1] := by simp [List.getD_eq_getElem?_getD, him]
    have hwr : IntKind.i64.wrap ((i : Int) - 1) = ((i - 1 : Nat) : Int) := by
      have := W_id (a := (i : Int) - 1) (by omega) (by omega)
      have e : IntKind.i64.wrap ((i : Int) - 1) = (i : Int) - 1 := this
      omega
    conv => whnf
    rw [hwr]
    refine ⟨by omega, ?_⟩
    conv => whnf
    rw [opF_loadWf (f := Prz.vals) (l := l) (c := .int .i64 l[i - 1].tick) (i - 1) 0 rfl rfl rfl rfl Prz.vlen (by rw [idx_nat]) him (by decide) rfl]
    conv => whnf
    cases b6 : decide (l[i].tick < l[i - 1].tick)
    case true =>
      have b6' := of_decide_eq_true b6
      conv => whnf
      refine ⟨by kernel_rfl, ?_⟩
      refine Run.of_wpK (hc _) 1000 _ ?_
      conv => whnf
      exact fin 2 (three 2 (by unfold pzAt W; rw [hgi, hgm, b0, b1, b2, if_neg (by decide), if_pos ⟨hi0, .inl b6'⟩]) (by decide)) rfl rfl
    have b6' := of_decide_eq_false b6
    conv => whnf
    rw [hwr]
    refine ⟨by omega, ?_⟩
    conv => whnf
    rw [opF_loadWf (f := Prz.vals) (l := l) (c := .int .i64 l[i - 1].tick) (i - 1) 0 rfl rfl rfl rfl Prz.vlen (by rw [idx_nat]) him (by decide) rfl]
    conv => whnf
    cases b7 : (l[i].tick == l[i - 1].tick)
    case false =>
      have b7' : ¬ l[i].tick = l[i - 1].tick := by simpa using b7
      conv => whnf
      refine ⟨by kernel_rfl, ?_⟩
      refine Run.of_wpK (hc _) 1000 _ ?_
      conv => whnf
      rw [wrap_succ (i := i) (by omega)]
      exact Run.trim (T' := [(0, ii rules), (1, .opq 0), (4, ii 0), (10, .opq 0), (11, ii (l.length : Int)), (12, ii ((i + 1 : Nat) : Int))]) (M' := [(0, .rwin 3 l.length (l.flatMap Prz.vals))]) 1 ⟨⟨rfl, trivial⟩, ⟨rfl, (show 0 < 1 by decide)⟩, ⟨rfl, trivial⟩, ⟨rfl, (show 0 < 1 by decide)⟩, ⟨rfl, trivial⟩, ⟨rfl, trivial⟩, trivial⟩ ⟨⟨rfl, (show 0 < 1 by decide), trivial⟩, trivial⟩ (fun q hq => by cases hq) (ih (upN hJ (by unfold pzAt W; rw [hgi, hgm, b0, b1, b2, if_neg (by decide), if_neg (fun h => h.2.elim b6' fun h => b7' h.1)])))
    have b7' : l[i].tick = l[i - 1].tick := by simpa using b7
    conv => whnf
    rw [hwr]
    refine ⟨by omega, ?_⟩
    conv => whnf
    rw [opF_loadWf (f := Prz.vals) (l := l) (c := .int .i64 l[i - 1].id) (i - 1) 1 rfl rfl rfl rfl Prz.vlen (by rw [idx_nat]) him (by decide) rfl]
    conv => whnf
    cases b8 : decide (l[i].id ≤ l[i - 1].id)
    case true =>
      have b8' := of_decide_eq_true b8
      conv => whnf
      refine ⟨by kernel_rfl, ?_⟩
      refine Run.of_wpK (hc _) 1000 _ ?_
      conv => whnf
      exact fin 2 (three 2 (by unfold pzAt W; rw [hgi, hgm, b0, b1, b2, if_neg (by decide), if_pos ⟨hi0, .inr ⟨b7', b8'⟩⟩]) (by decide)) rfl rfl
    have b8' := of_decide_eq_false b8
    conv => whnf
    refine ⟨by kernel_rfl, ?_⟩
    refine Run.of_wpK (hc _) 1000 _ ?_
    conv => whnf
    rw [wrap_succ (i := i) (by omega)]
    exact Run.trim (T' := [(0, ii rules), (1, .opq 0), (4, ii 0), (10, .opq 0), (11, ii (l.length : Int)), (12, ii ((i + 1 : Nat) : Int))]) (M' := [(0, .rwin 3 l.length (l.flatMap Prz.vals))]) 1 ⟨⟨rfl, trivial⟩, ⟨rfl, (show 0 < 1 by decide)⟩, ⟨rfl, trivial⟩, ⟨rfl, (show 0 < 1 by decide)⟩, ⟨rfl, trivial⟩, ⟨rfl, trivial⟩, trivial⟩ ⟨⟨rfl, (show 0 < 1 by decide), trivial⟩, trivial⟩ (fun q hq => by cases hq) (ih (upN hJ (by unfold pzAt W; rw [hgi, hgm, b0, b1, b2, if_neg (by decide), if_neg (fun h => h.2.elim b6' fun h => b8' h.2)])))
  · intro hJ
    refine Run.of_wpK (hc _) 1000 _ ?_
    conv => whnf
    rw [decide_eq_false (show ¬ ((l.length : Nat) : Int) < (l.length : Int) by omega)]
    conv => whnf
    exact fin 0 (by unfold pzsChk; rw [if_neg e1', firstN_all fun j hj => hJ j hj hj]) rfl rfl
end Go.Proofs.Ytnnlpdgnlccbjaa
namespace Go.Sx
theorem run_zeroV {P : Program} (w : World) {t : TypeId} {inf : TypeInfo} {z : Value} (hi : P.info? t = some inf) (hz : inf.zero = some z) : (zeroValue t).run P w = .ok z w := by
  simp [zeroValue, typeInfo, hi, hz]
theorem zeroCells_one (zv : Value) (m : Nat) : (Builtin.zeroCells #[zv] m).toList = List.replicate m zv := by
  unfold Builtin.zeroCells
  refine List.ext_getElem (by simp) fun i h1 h2 => ?_
  simp [Nat.mod_one]
/-- A slice of elements of one cell is cleared. -/
theorem Run.clear1 {c : Cx} (hc : c.ok) {T : List (Nat × SV)} {M : List (Nat × SObj)} {n : Nat} {D : List Deferred} {ops : Array Oper} {i : Nat} {r : List Nat} {k : List Item} {R : Ending → World → Prop} {o : Oper} {x : Operand} {t : TypeId}
    (ho : get ops.toList i = some o) (hop : o.op = .call { callee := .builtin .clear, args := #[x], argTypes := #[t] }) (hw : wantS ops.toList (look T) o = some true) (hd : okD c.fn.ntmps o.dst = true)
    {j m : Nat} {xs : List SV} {te : TypeId} (hx : ev (look T) x = some (.opq j)) (hj : look M j = some (.row 1 m xs te))
    {ti tie : TI} {bytes : Nat} (hti : look c.tab t = some ti) (hsh : ti.sh = .slc te 1 bytes) (hte : look c.tab te = some tie) {zv : Value} (hz : tie.zero = [zv]) (h1 : zv.oneCell' = true)
    (h : Run c ⟨putS T o.dst (.tup []), (j, .row 1 m (List.replicate m (.v zv)) te) :: M, n, D, .inRegion ops r :: k⟩ R) : Run c ⟨T, M, n, D, .inRegion ops (i :: r) :: k⟩ R := by
  refine ⟨fun ρ a w hi => ?_⟩
  rw [get_eq, Array.getElem?_toList] at ho
  refine TW.op ho (wantS_ok hi.tm hw) ?_
  obtain ⟨hx1, _⟩ := ev_ok hi.tm hx
  have hti := Tab.ok_look hc.tab hti
  have hte := Tab.ok_look hc.tab hte
  obtain ⟨d, hd1, hd2⟩ := hti.desc
  obtain ⟨inf, rfl, g2, g3, g4⟩ := sh_desc.2.2.2.2.1 te 1 bytes (hd2.trans hsh)
  obtain ⟨inf', z, i1, _, i3, i4⟩ := hte.infos
  rw [g2] at i1
  obtain rfl := Option.some.inj i1
  have hzc : z.cells = #[zv] := by rw [hz] at i4; rw [← i4]
  obtain ⟨hjn, hscr, hoff, hlen, hrow⟩ := hi.wi.mem j _ hj
  have hund : (underlying t).run c.P w = .ok (.slice te) w := by simp [underlying, hd1]
  have key : ∀ w', (execOp a.eval o).run c.P w = .ok (.value (.tuple #[])) w' → WI c.w0 c.L ρ (upd (look M) j (.row 1 m (List.replicate m (.v zv)) te)) (· < n) w' → Oc c.P a o w fun v w' => TW c.P c.f c.rr (a.put o.dst v) (.inRegion ops r :: k) w' R := by
    intro w' hr hW'
    refine Oc.value (v := .tuple #[]) hr ?_
    rw [← look_upd] at hW'
    have hinv := hi.put (ρ' := ρ) hd (Env.agree.refl _ ρ) (Nat.le_refl n) (v := .tup []) trivial hW' (.inRegion ops r :: k)
    exact h.go _ _ w' hinv
  have hl0 : m = 0 → xs = [] := fun h0 => List.eq_nil_of_length_eq_zero (by rw [hlen, h0, Nat.zero_mul])
  have same : m = 0 → WI c.w0 c.L ρ (upd (look M) j (.row 1 m (List.replicate m (.v zv)) te)) (· < n) w := fun h0 => by
    have e : upd (look M) j (.row 1 m (List.replicate m (.v zv)) te) = look M := by
      funext q
      unfold upd
      split
      · rename_i e; subst e; rw [hj, hl0 h0, h0]; rfl
      · rfl
    rw [e]; exact hi.wi
  rcases hrow with ⟨hh, h0⟩ | ⟨cap, sp, hh, hcap, hheap⟩
  · refine key w ?_ (same h0)
    simp only [SV.conc, hh] at hx1
    simp [execOp, hop, resolve, invoke, builtin, hx1, Builtin.clear_, hund]
  · simp only [SV.conc, hh] at hx1
    rcases Nat.eq_zero_or_pos m with h0 | h0
    · refine key w ?_ (same h0)
      subst h0
      simp [execOp, hop, resolve, invoke, builtin, hx1, Builtin.clear_, hund]
    · have hst := run_stores (P := c.P) (ρ.s j) 0 te (List.replicate m zv) 0 (SV.concs ρ xs ++ sp) w hheap (by simp [concs_length]; omega) (fun v hv => by rw [List.eq_of_mem_replicate hv]; exact h1)
      have hl2 : List.take (0 + 0) (SV.concs ρ xs ++ sp) ++ List.replicate m zv ++ List.drop (0 + 0 + (List.replicate m zv).length) (SV.concs ρ xs ++ sp) = SV.concs ρ (List.replicate m (.v zv)) ++ sp := by
        have hxl : (SV.concs ρ xs).length = m := by rw [concs_length, hlen, Nat.mul_one]
        have hrep : SV.concs ρ (List.replicate m (.v zv)) = List.replicate m zv := by rw [concs_map, List.map_replicate]; rfl
        rw [hrep, List.length_replicate, Nat.zero_add, Nat.zero_add, List.take_zero, List.nil_append]
        conv => lhs; rw [← hxl]
        rw [List.drop_left, hxl]
      rw [hl2] at hst
      have hscs : SV.scs (· < n) (List.replicate m (SV.v zv)) := by
        rw [scs_iff]; intro a ha; rw [List.eq_of_mem_replicate ha]; trivial
      refine key (w.setRow (ρ.s j) (SV.concs ρ (List.replicate m (.v zv)) ++ sp).toArray) ?_ ?_
      · have hz2 := run_zeroV (P := c.P) w g2 i3
        obtain ⟨m', rfl⟩ : ∃ m', m = m' + 1 := ⟨m - 1, by omega⟩
        simp [execOp, hop, resolve, invoke, builtin, hx1, Builtin.clear_, hund, hz2, hzc, zeroCells_one, hst]
      · refine hi.wi.write (o' := .row 1 m (List.replicate m (.v zv)) te) hj (by simp [SObj.occ, hh]) hscs (setRow_heap w _ _ _ _ _ hheap) (fun hheap' => ?_) (fun q hq => setRow_other w _ _ _ hq) (setRow_size w _ _) rfl rfl rfl
        exact ⟨hoff, by simp, .inr ⟨cap, sp, hh, hcap, hheap'⟩⟩
end Go.Sx
namespace Go.Proofs.Ytnnlpdgnlccbjaa
open Go.Sx
set_option maxRecDepth 100000
set_option maxHeartbeats 4000000
def prepChk (n : Net) (l : List Evt) (ticks lim : Int) : Int := if netChk n ≠ 0 then netChk n else if wi ticks 0 lim = false then 3 else evsChk n.inp lim l
theorem prepared_run (vN vS : Value) (n : Net) (vE : Value) (l : List Evt) (ticks lim : Int) (w : World) (hn : IsNet w vN vS n) (hr : RowsAt w vE 2 l.length (l.flatMap Evt.vals)) :
    Calls Try.prog 58 #[netV vN vS n, vE, .int .i64 ticks, .int .i64 lim] w fun e w' => e = .returned (.int .i64 (prepChk n l ticks lim)) ∧ Ext w w' := by
  have hpf : PF.oks Try.prog [(76, F3 fun n lo hi => .bool (wi n lo hi))] := ⟨nwithin_pure, trivial⟩
  have hc : ∀ L, Cx.ok ⟨Try.prog, tab, [(76, F3 fun n lo hi => .bool (wi n lo hi))], 58, Try.f58, [], w, L, none⟩ := fun L => ⟨tab_ok, hpf, Try.func58, mixed, fun _ h => by cases h⟩
  obtain ⟨h1, h2⟩ := hn
  obtain ⟨N, inp, S⟩ := n
  simp only at h1 h2
  have hrows : AllP (fun x : Value × Nat × Nat × List Value => RowsAt w x.1 x.2.1 x.2.2.1 x.2.2.2) [(vN, 8, N.length, N.flatMap Prm.vals), (vS, 4, S.length, S.flatMap Syn.vals), (vE, 2, l.length, l.flatMap Evt.vals)] := ⟨h1, h2, hr, trivial⟩
  refine Run.startW Try.func58 rfl _ hrows [.agg [.opq 0, ii inp, .opq 1], .opq 2, ii ticks, ii lim] [netV vN vS ⟨N, inp, S⟩, vE, .int .i64 ticks, .int .i64 lim] [(0, .rwin 8 N.length (N.flatMap Prm.vals)), (1, .rwin 4 S.length (S.flatMap Syn.vals)), (2, .rwin 2 l.length (l.flatMap Evt.vals))] 3 rfl rfl
    (by show [Value.agg [(SV.opq 0).conc _, .int .i64 inp, (SV.opq 1).conc _].toArray, (SV.opq 2).conc _, _, _] = _; rw [conc_rows hrows (k := 0) rfl, conc_rows hrows (k := 1) rfl, conc_rows hrows (k := 2) rfl]; rfl) (by simp [SV.scs, SV.sc]) rfl (Run.of_wpK (hc _) 1000 _ ?_)
  conv => whnf
  obtain ⟨ck, hck⟩ : ∃ ck, netChk ⟨N, inp, S⟩ = ck := ⟨_, rfl⟩
  refine Run.callE (g := 42) (vs := [.agg [.opq 0, ii inp, .opq 1]]) (caps := []) (ii ck) (fun ρ w1 hW => by
    rw [← hck]
    exact netCheck_run ((SV.opq 0).conc ρ) ((SV.opq 1).conc ρ) ⟨N, inp, S⟩ w1 ⟨hW.rowsAt rfl, hW.rowsAt rfl⟩) (ent _ _ Try.func42 (by kernel_rfl) rfl) rfl rfl rfl rfl rfl rfl rfl trivial ?_
  refine Run.of_wpK (hc _) 1000 _ ?_
  conv => whnf
  cases e1 : ck != 0
  case true =>
    conv => whnf
    have e1' : ck ≠ 0 := by simpa using e1
    exact ⟨fun ρ w' hW _ => ⟨by unfold prepChk; rw [hck, if_pos e1']; rfl, hW.toExt⟩⟩
  have e1' : ¬ ck ≠ 0 := by simpa using e1
  conv => whnf
  cases e2 : wi ticks 0 lim
  case false =>
    conv => whnf
    exact ⟨fun ρ w' hW _ => ⟨by unfold prepChk; rw [hck, if_neg e1', if_pos e2]; rfl, hW.toExt⟩⟩
  conv => whnf
  refine Run.callE (g := 91) (vs := [.agg [.opq 0, ii inp, .opq 1], .opq 2, ii lim]) (caps := []) (ii (evsChk inp lim l)) (fun ρ w1 hW => 
    nordered_run ((SV.opq 0).conc ρ) ((SV.opq 1).conc ρ) ⟨N, inp, S⟩ ((SV.opq 2).conc ρ) l lim w1 ⟨hW.rowsAt rfl, hW.rowsAt rfl⟩ (hW.rowsAt rfl)) (ent _ _ Try.func91 (by kernel_rfl) rfl) rfl rfl rfl rfl rfl rfl rfl trivial ?_
  obtain ⟨ek, hek⟩ : ∃ ek, evsChk inp lim l = ek := ⟨_, rfl⟩
  rw [hek]
  refine Run.of_wpK (hc _) 1000 _ ?_
  conv => whnf
  exact ⟨fun ρ w' hW _ => ⟨by unfold prepChk; rw [hck, if_neg e1', if_neg (by rw [e2]; decide), hek]; rfl, hW.toExt⟩⟩
theorem wired_run (p : Option Addr) (m cap : Nat) (inp : Int) (w : World) : Calls Try.prog 92 #[.agg #[.slice p m cap, .int .i64 inp, .slice none 0 0]] w fun en w' => ∃ b, en = .returned (.map (some b)) ∧ Ext w w' ∧ w.heap.size ≤ b ∧ w'.heap[b]? = some (kobj []) := by
  have hc : ∀ L, Cx.ok ⟨Try.prog, tab, [], 92, Try.f92, [], w, L, none⟩ := fun L => ⟨tab_ok, trivial, Try.func92, mixed, fun _ h => by cases h⟩
  refine Run.start0 (tab := tab) (pf := []) (cuts := []) mixed tab_ok trivial Try.func92 rfl [.agg [.v (.slice p m cap), ii inp, .v (.slice none 0 0)]] 100 (by simp [SV.scs, SV.sc]) rfl ?_
  conv => whnf
  refine Run.of_wpK (hc _) 100 _ ?_
  conv => whnf
  refine ⟨fun ρ w' hW _ => ?_⟩
  obtain ⟨_, _, _, hm⟩ := hW.mem 1 _ rfl
  rcases hm with ⟨h0, h1⟩ | ⟨h0, _⟩
  · refine ⟨ρ.s 1, by show Ending.returned (.map (if ρ.o 1 = 0 then some (ρ.s 1) else none)) = _; rw [if_pos h0], hW.toExt, ?_, h1⟩
    rcases hW.new 1 _ rfl h0 with ⟨p, hp, _⟩ | h
    · cases hp
    · exact h
  · cases h0
def FWire : Mem → List SV → Option (List Nat × SV) := fun _ args => match args with
  | [.agg [.opq _, .v (.int .i64 _), .v (.slice none 0 0)]] => some ([], .v (.bool false))
  | _ => none
theorem mk_wired : Maker Try.prog 92 FWire where
  ent := ent _ _ Try.func92 (by kernel_rfl) rfl
  cong M M' args hb := rfl
  run w0 L ρ M S args e m te xs w hW hF hs := by
    exfalso
    unfold FWire at hF
    split at hF <;> cases hF
  runM w0 L ρ M S args pk w hW hF hs := by
    unfold FWire at hF
    split at hF
    case h_2 => cases hF
    obtain rfl : false = pk := by simpa using hF
    exact wired_run _ _ _ _ w
end Go.Proofs.Ytnnlpdgnlccbjaa
namespace Go.Proofs.Ytnnlpdgnlccbjaa
open Go.Sx
set_option maxRecDepth 100000
set_option maxHeartbeats 4000000
def simC (inp tk : Int) : List SV := [.opq 1, ii inp, .v (.slice none 0 0), .mp 2, ii tk, .opq 3, .opq 4, .opq 5, .opq 6, .opq 7, .opq 8, .opq 9, .opq 10, .opq 11, .opq 12, .opq 13, .opq 14, .opq 15, .opq 16, .opq 17, .opq 18, .opq 19]
theorem simC_sc (inp tk : Int) : SV.scs (· < 20) (simC inp tk) := by simp [simC, SV.scs, SV.sc]
theorem row_spec (inp tk : Int) (h0 : 0 ≤ tk) (h1 : tk < 4611686018427387904) : BSpec Try.prog 93 [.ptr 0 0, ii 0] [(0, .cells (simC inp tk) 170)] 20 [0] (.opq (4 + slotN tk)) [(0, .cells (simC inp tk) 170)] 20 := by
  have hc : ∀ w L' rd, (∀ p, rd = some p → p ∈ L') → Cx.ok ⟨Try.prog, tab, [], 93, Try.f93, [], w, L', rd⟩ := fun w L' rd h => ⟨tab_ok, trivial, Try.func93, mixed, h⟩
  refine BSpec.start (tab := tab) (pf := []) (cuts := []) Try.func93 rfl ⟨(show 0 < 20 by decide), trivial, trivial⟩ rfl fun w L0 plp hL hLB hcov => Run.of_wpK (hc w L0 none (fun _ h => by cases h)) 100 _ ?_
  conv => whnf
  refine Run.draw (hc w L0 none (fun _ h => by cases h)) 13 ?_
  rw [show upto 0 13 = upto 0 8 ++ upto 8 5 from rfl]
  simp only [drawK_app]
  conv => whnf
  refine ⟨by decide, ?_⟩
  have hw : IntKind.i64.wrap (tk + 0) = tk := by rw [Int.add_zero]; exact W_id (by omega) (by omega)
  rw [hw, slotN_eq h0]
  have hk16 := slotN_lt (t := tk)
  generalize slotN tk = k at hk16 ⊢
  conv => whnf
  refine ⟨by omega, ?_⟩
  conv => whnf
  rw [opF_loadC (c := .opq (4 + k)) rfl rfl rfl rfl (by rw [idx_nat]; rcases lt16 hk16 with rfl | rfl | rfl | rfl | rfl | rfl | rfl | rfl | rfl | rfl | rfl | rfl | rfl | rfl | rfl | rfl <;> rfl)]
  conv => whnf
  refine ⟨by kernel_rfl, ?_⟩
  refine Run.of_wpK (hc w L0 none (fun _ h => by cases h)) 1000 _ ?_
  conv => whnf
  exact SpecR.intro 21 (by decide) hLB (by decide) hcov rfl (by show SV.opq (sh 20 21 (4 + k)) = _; rw [sh_lt (by omega)]) (show 4 + k < 20 by omega) ⟨⟨by rw [oren_fix (S := (· < 20)) (fun i hi => sh_fix i hi) (o := .cells (simC inp tk) 170) (simC_sc _ _)]; rfl, by omega, simC_sc _ _⟩, trivial⟩
theorem from_spec : BSpec Try.prog 94 [.mp 0, .v (.slice none 0 0), .opq 1] [] 2 [] (.fn 106 [.ptr 2 0, .ptr 3 0, .ptr 4 0]) [(2, .cells [.mp 0] 165), (3, .cells [.v (.slice none 0 0)] 27), (4, .cells [.opq 1] 27)] 5 := by
  have hc : ∀ w L' rd, (∀ p, rd = some p → p ∈ L') → Cx.ok ⟨Try.prog, tab, [], 94, Try.f94, [], w, L', rd⟩ := fun w L' rd h => ⟨tab_ok, trivial, Try.func94, mixed, h⟩
  refine BSpec.start (tab := tab) (pf := []) (cuts := []) Try.func94 rfl ⟨(show 0 < 2 by decide), trivial, (show 1 < 2 by decide), trivial⟩ rfl fun w L0 plp hL hLB hcov => Run.of_wpK (hc w L0 none (fun _ h => by cases h)) 100 _ ?_
  conv => whnf
  exact SpecR.intro 3 (by decide) hLB (by decide) hcov rfl rfl ⟨(show 2 < 5 by decide), (show 3 < 5 by decide), (show 4 < 5 by decide), trivial⟩ ⟨⟨rfl, by omega, by simp [SObj.sc, SV.scs, SV.sc]⟩, ⟨rfl, by omega, by simp [SObj.sc, SV.scs, SV.sc]⟩, ⟨rfl, by omega, by simp [SObj.sc, SV.scs, SV.sc]⟩, trivial⟩
theorem each_spec (a : Int) : BSpec Try.prog 107 [ii a, .ptr 1 0, .ptr 2 0] [(0, .kwin false []), (1, .cells [.mp 0] 165)] 3 [1] (.v (.bool true)) [(1, .cells [.mp 0] 165)] 3 := by
  have hc : ∀ w L' rd, (∀ p, rd = some p → p ∈ L') → Cx.ok ⟨Try.prog, tab, [], 107, Try.f107, [], w, L', rd⟩ := fun w L' rd h => ⟨tab_ok, trivial, Try.func107, mixed, h⟩
  refine BSpec.start (tab := tab) (pf := []) (cuts := []) Try.func107 rfl ⟨trivial, (show 1 < 3 by decide), (show 2 < 3 by decide), trivial⟩ rfl fun w L0 plp hL hLB hcov => Run.of_wpK (hc w L0 none (fun _ h => by cases h)) 100 _ ?_
  conv => whnf
  refine Run.of_wpK (hc w L0 none (fun _ h => by cases h)) 1000 _ ?_
  conv => whnf
  exact SpecR.intro 4 (by decide) hLB (by decide) hcov rfl rfl trivial ⟨⟨rfl, by omega, by simp [SObj.sc, SV.scs, SV.sc]⟩, trivial⟩
def prm1 : Prm := ⟨0, 0, 0, 1, 0, 0, 0, 0⟩
abbrev pfStart : PF := [(64 + 1000, FCl 8 60), (92 + 1000, FWire)]
theorem pfStart_ok : PF.oks Try.prog pfStart := ⟨mk_params, mk_wired, trivial⟩
def startR (inp : Int) : List (Nat × SObj) := [(1, .cells [.opq 2, ii inp, .v (.slice none 0 0), .mp 3, ii 0, .opq 4, .opq 5, .opq 6, .opq 7, .opq 8, .opq 9, .opq 10, .opq 11, .opq 12, .opq 13, .opq 14, .opq 15, .opq 16, .opq 17, .opq 18, .opq 19, .opq 20] 170), (2, .row 8 1 (([prm1].flatMap Prm.vals).map .v) 60), (3, .kmap false true []), (4, .row 2 1 [ii 0, ii 0] 139), (5, .row 1 1 [ii 0] 3), (6, .row 1 1 [ii 0] 3), (7, .row 1 1 [ii 0] 3), (8, .row 1 1 [ii 0] 3), (9, .row 1 1 [ii 0] 3), (10, .row 1 1 [ii 0] 3), (11, .row 1 1 [ii 0] 3), (12, .row 1 1 [ii 0] 3), (13, .row 1 1 [ii 0] 3), (14, .row 1 1 [ii 0] 3), (15, .row 1 1 [ii 0] 3), (16, .row 1 1 [ii 0] 3), (17, .row 1 1 [ii 0] 3), (18, .row 1 1 [ii 0] 3), (19, .row 1 1 [ii 0] 3), (20, .row 1 1 [ii 0] 3)]
theorem start_spec (inp : Int) : BSpec Try.prog 59 [.agg [.opq 0, ii inp, .v (.slice none 0 0)]] [(0, .rwin 8 1 ([prm1].flatMap Prm.vals))] 1 [] (.ptr 1 0) (startR inp) 21 := by
  have hc : ∀ w L' rd, (∀ p, rd = some p → p ∈ L') → Cx.ok ⟨Try.prog, tab, pfStart, 59, Try.f59, [], w, L', rd⟩ := fun w L' rd h => ⟨tab_ok, pfStart_ok, Try.func59, mixed, h⟩
  refine BSpec.start (tab := tab) (pf := pfStart) (cuts := []) Try.func59 rfl ⟨⟨(show 0 < 1 by decide), trivial, trivial, trivial⟩, trivial⟩ rfl fun w L0 plp hL hLB hcov => Run.of_wpK (hc w L0 none (fun _ h => by cases h)) 100 _ ?_
  conv => whnf
  refine Run.draw (hc w L0 none (fun _ h => by cases h)) 10 ?_
  conv => whnf
  refine ⟨by kernel_rfl, ?_⟩
  refine Run.of_wpK (hc w L0 none (fun _ h => by cases h)) 1000 _ ?_
  conv => whnf
  refine Run.trim (T' := [(1, .ptr 2 0), (3, .ptr 12 0), (18, ii 0)]) (M' := [(12, .cells [.opq 3, ii inp, .v (.slice none 0 0), .mp 6, ii 0, .opq 10, .v (.slice none 0 0), .v (.slice none 0 0), .v (.slice none 0 0), .v (.slice none 0 0), .v (.slice none 0 0), .v (.slice none 0 0), .v (.slice none 0 0), .v (.slice none 0 0), .v (.slice none 0 0), .v (.slice none 0 0), .v (.slice none 0 0), .v (.slice none 0 0), .v (.slice none 0 0), .v (.slice none 0 0), .v (.slice none 0 0), .v (.slice none 0 0)] 170), (10, .row 2 1 [ii 0, ii 0] 139), (6, .kmap false true []), (2, .cells [.opq 3, ii inp, .v (.slice none 0 0)] 25), (3, .row 8 1 (([prm1].flatMap Prm.vals).map .v) 60), (1, .pin plp)]) 14 ⟨⟨rfl, (show 2 < 14 by decide)⟩, ⟨rfl, (show 12 < 14 by decide)⟩, ⟨rfl, trivial⟩, trivial⟩ ⟨⟨rfl, (show 12 < 14 by decide), by simp [SObj.sc, SV.scs, SV.sc]⟩, ⟨rfl, (show 10 < 14 by decide), by simp [SObj.sc, SV.scs, SV.sc]⟩, ⟨rfl, (show 6 < 14 by decide), trivial⟩, ⟨rfl, (show 2 < 14 by decide), by simp [SObj.sc, SV.scs, SV.sc]⟩, ⟨rfl, by omega, scs_v _ _⟩, ⟨rfl, by omega, fun p hp => Nat.lt_of_lt_of_le (hcov.1 p hp) (show 1 ≤ 14 by decide)⟩, trivial⟩ (fun p hp => by have := hLB p hp; omega) ?_
  refine Run.of_wpK (hc w L0 none (fun _ h => by cases h)) 1000 _ ?_
  conv => whnf
  refine Run.draw (hc w L0 none (fun _ h => by cases h)) 10 ?_
  conv => whnf
  refine ⟨by decide, ?_⟩
  conv => whnf
  refine ⟨by kernel_rfl, ?_⟩
  refine Run.of_wpK (hc w L0 none (fun _ h => by cases h)) 1000 _ ?_
  conv => whnf
  refine Run.trim (T' := [(1, .ptr 2 0), (3, .ptr 12 0), (18, ii 1)]) (M' := [(12, .cells [.opq 3, ii inp, .v (.slice none 0 0), .mp 6, ii 0, .opq 10, .opq 19, .v (.slice none 0 0), .v (.slice none 0 0), .v (.slice none 0 0), .v (.slice none 0 0), .v (.slice none 0 0), .v (.slice none 0 0), .v (.slice none 0 0), .v (.slice none 0 0), .v (.slice none 0 0), .v (.slice none 0 0), .v (.slice none 0 0), .v (.slice none 0 0), .v (.slice none 0 0), .v (.slice none 0 0), .v (.slice none 0 0)] 170), (19, .row 1 1 [ii 0] 3), (10, .row 2 1 [ii 0, ii 0] 139), (6, .kmap false true []), (2, .cells [.opq 3, ii inp, .v (.slice none 0 0)] 25), (3, .row 8 1 (([prm1].flatMap Prm.vals).map .v) 60), (1, .pin plp)]) 24 ⟨⟨rfl, (show 2 < 24 by decide)⟩, ⟨rfl, (show 12 < 24 by decide)⟩, ⟨rfl, trivial⟩, trivial⟩ ⟨⟨rfl, (show 12 < 24 by decide), by simp [SObj.sc, SV.scs, SV.sc]⟩, ⟨rfl, (show 19 < 24 by decide), by simp [SObj.sc, SV.scs, SV.sc]⟩, ⟨rfl, (show 10 < 24 by decide), by simp [SObj.sc, SV.scs, SV.sc]⟩, ⟨rfl, (show 6 < 24 by decide), trivial⟩, ⟨rfl, (show 2 < 24 by decide), by simp [SObj.sc, SV.scs, SV.sc]⟩, ⟨rfl, by omega, scs_v _ _⟩, ⟨rfl, by omega, fun p hp => Nat.lt_of_lt_of_le (hcov.1 p hp) (show 1 ≤ 24 by decide)⟩, trivial⟩ (fun p hp => by have := hLB p hp; omega) ?_
  refine Run.of_wpK (hc w L0 none (fun _ h => by cases h)) 1000 _ ?_
  conv => whnf
  refine Run.draw (hc w L0 none (fun _ h => by cases h)) 10 ?_
  conv => whnf
  refine ⟨by decide, ?_⟩
  conv => whnf
  refine ⟨by kernel_rfl, ?_⟩
  refine Run.of_wpK (hc w L0 none (fun _ h => by cases h)) 1000 _ ?_
  conv => whnf
  refine Run.trim (T' := [(1, .ptr 2 0), (3, .ptr 12 0), (18, ii 2)]) (M' := [(12, .cells [.opq 3, ii inp, .v (.slice none 0 0), .mp 6, ii 0, .opq 10, .opq 19, .opq 29, .v (.slice none 0 0), .v (.slice none 0 0), .v (.slice none 0 0), .v (.slice none 0 0), .v (.slice none 0 0), .v (.slice none 0 0), .v (.slice none 0 0), .v (.slice none 0 0), .v (.slice none 0 0), .v (.slice none 0 0), .v (.slice none 0 0), .v (.slice none 0 0), .v (.slice none 0 0), .v (.slice none 0 0)] 170), (19, .row 1 1 [ii 0] 3), (29, .row 1 1 [ii 0] 3), (10, .row 2 1 [ii 0, ii 0] 139), (6, .kmap false true []), (2, .cells [.opq 3, ii inp, .v (.slice none 0 0)] 25), (3, .row 8 1 (([prm1].flatMap Prm.vals).map .v) 60), (1, .pin plp)]) 34 ⟨⟨rfl, (show 2 < 34 by decide)⟩, ⟨rfl, (show 12 < 34 by decide)⟩, ⟨rfl, trivial⟩, trivial⟩ ⟨⟨rfl, (show 12 < 34 by decide), by simp [SObj.sc, SV.scs, SV.sc]⟩, ⟨rfl, (show 19 < 34 by decide), by simp [SObj.sc, SV.scs, SV.sc]⟩, ⟨rfl, (show 29 < 34 by decide), by simp [SObj.sc, SV.scs, SV.sc]⟩, ⟨rfl, (show 10 < 34 by decide), by simp [SObj.sc, SV.scs, SV.sc]⟩, ⟨rfl, (show 6 < 34 by decide), trivial⟩, ⟨rfl, (show 2 < 34 by decide), by simp [SObj.sc, SV.scs, SV.sc]⟩, ⟨rfl, by omega, scs_v _ _⟩, ⟨rfl, by omega, fun p hp => Nat.lt_of_lt_of_le (hcov.1 p hp) (show 1 ≤ 34 by decide)⟩, trivial⟩ (fun p hp => by have := hLB p hp; omega) ?_
  refine Run.of_wpK (hc w L0 none (fun _ h => by cases h)) 1000 _ ?_
  conv => whnf
  refine Run.draw (hc w L0 none (fun _ h => by cases h)) 10 ?_
  conv => whnf
  refine ⟨by decide, ?_⟩
  conv => whnf
  refine ⟨by kernel_rfl, ?_⟩
  refine Run.of_wpK (hc w L0 none (fun _ h => by cases h)) 1000 _ ?_
  conv => whnf
  refine Run.trim (T' := [(1, .ptr 2 0), (3, .ptr 12 0), (18, ii 3)]) (M' := [(12, .cells [.opq 3, ii inp, .v (.slice none 0 0), .mp 6, ii 0, .opq 10, .opq 19, .opq 29, .opq 39, .v (.slice none 0 0), .v (.slice none 0 0), .v (.slice none 0 0), .v (.slice none 0 0), .v (.slice none 0 0), .v (.slice none 0 0), .v (.slice none 0 0), .v (.slice none 0 0), .v (.slice none 0 0), .v (.slice none 0 0), .v (.slice none 0 0), .v (.slice none 0 0), .v (.slice none 0 0)] 170), (19, .row 1 1 [ii 0] 3), (29, .row 1 1 [ii 0] 3), (39, .row 1 1 [ii 0] 3), (10, .row 2 1 [ii 0, ii 0] 139), (6, .kmap false true []), (2, .cells [.opq 3, ii inp, .v (.slice none 0 0)] 25), (3, .row 8 1 (([prm1].flatMap Prm.vals).map .v) 60), (1, .pin plp)]) 44 ⟨⟨rfl, (show 2 < 44 by decide)⟩, ⟨rfl, (show 12 < 44 by decide)⟩, ⟨rfl, trivial⟩, trivial⟩ ⟨⟨rfl, (show 12 < 44 by decide), by simp [SObj.sc, SV.scs, SV.sc]⟩, ⟨rfl, (show 19 < 44 by decide), by simp [SObj.sc, SV.scs, SV.sc]⟩, ⟨rfl, (show 29 < 44 by decide), by simp [SObj.sc, SV.scs, SV.sc]⟩, ⟨rfl, (show 39 < 44 by decide), by simp [SObj.sc, SV.scs, SV.sc]⟩, ⟨rfl, (show 10 < 44 by decide), by simp [SObj.sc, SV.scs, SV.sc]⟩, ⟨rfl, (show 6 < 44 by decide), trivial⟩, ⟨rfl, (show 2 < 44 by decide), by simp [SObj.sc, SV.scs, SV.sc]⟩, ⟨rfl, by omega, scs_v _ _⟩, ⟨rfl, by omega, fun p hp => Nat.lt_of_lt_of_le (hcov.1 p hp) (show 1 ≤ 44 by decide)⟩, trivial⟩ (fun p hp => by have := hLB p hp; omega) ?_
  refine Run.of_wpK (hc w L0 none (fun _ h => by cases h)) 1000 _ ?_
  conv => whnf
  refine Run.draw (hc w L0 none (fun _ h => by cases h)) 10 ?_
  conv => whnf
  refine ⟨by decide, ?_⟩
  conv => whnf
  refine ⟨by kernel_rfl, ?_⟩
  refine Run.of_wpK (hc w L0 none (fun _ h => by cases h)) 1000 _ ?_
  conv => whnf
  refine Run.trim (T' := [(1, .ptr 2 0), (3, .ptr 12 0), (18, ii 4)]) (M' := [(12, .cells [.opq 3, ii inp, .v (.slice none 0 0), .mp 6, ii 0, .opq 10, .opq 19, .opq 29, .opq 39, .opq 49, .v (.slice none 0 0), .v (.slice none 0 0), .v (.slice none 0 0), .v (.slice none 0 0), .v (.slice none 0 0), .v (.slice none 0 0), .v (.slice none 0 0), .v (.slice none 0 0), .v (.slice none 0 0), .v (.slice none 0 0), .v (.slice none 0 0), .v (.slice none 0 0)] 170), (19, .row 1 1 [ii 0] 3), (29, .row 1 1 [ii 0] 3), (39, .row 1 1 [ii 0] 3), (49, .row 1 1 [ii 0] 3), (10, .row 2 1 [ii 0, ii 0] 139), (6, .kmap false true []), (2, .cells [.opq 3, ii inp, .v (.slice none 0 0)] 25), (3, .row 8 1 (([prm1].flatMap Prm.vals).map .v) 60), (1, .pin plp)]) 54 ⟨⟨rfl, (show 2 < 54 by decide)⟩, ⟨rfl, (show 12 < 54 by decide)⟩, ⟨rfl, trivial⟩, trivial⟩ ⟨⟨rfl, (show 12 < 54 by decide), by simp [SObj.sc, SV.scs, SV.sc]⟩, ⟨rfl, (show 19 < 54 by decide), by simp [SObj.sc, SV.scs, SV.sc]⟩, ⟨rfl, (show 29 < 54 by decide), by simp [SObj.sc, SV.scs, SV.sc]⟩, ⟨rfl, (show 39 < 54 by decide), by simp [SObj.sc, SV.scs, SV.sc]⟩, ⟨rfl, (show 49 < 54 by decide), by simp [SObj.sc, SV.scs, SV.sc]⟩, ⟨rfl, (show 10 < 54 by decide), by simp [SObj.sc, SV.scs, SV.sc]⟩, ⟨rfl, (show 6 < 54 by decide), trivial⟩, ⟨rfl, (show 2 < 54 by decide), by simp [SObj.sc, SV.scs, SV.sc]⟩, ⟨rfl, by omega, scs_v _ _⟩, ⟨rfl, by omega, fun p hp => Nat.lt_of_lt_of_le (hcov.1 p hp) (show 1 ≤ 54 by decide)⟩, trivial⟩ (fun p hp => by have := hLB p hp; omega) ?_
  refine Run.of_wpK (hc w L0 none (fun _ h => by cases h)) 1000 _ ?_
  conv => whnf
  refine Run.draw (hc w L0 none (fun _ h => by cases h)) 10 ?_
  conv => whnf
  refine ⟨by decide, ?_⟩
  conv => whnf
  refine ⟨by kernel_rfl, ?_⟩
  refine Run.of_wpK (hc w L0 none (fun _ h => by cases h)) 1000 _ ?_
  conv => whnf
  refine Run.trim (T' := [(1, .ptr 2 0), (3, .ptr 12 0), (18, ii 5)]) (M' := [(12, .cells [.opq 3, ii inp, .v (.slice none 0 0), .mp 6, ii 0, .opq 10, .opq 19, .opq 29, .opq 39, .opq 49, .opq 59, .v (.slice none 0 0), .v (.slice none 0 0), .v (.slice none 0 0), .v (.slice none 0 0), .v (.slice none 0 0), .v (.slice none 0 0), .v (.slice none 0 0), .v (.slice none 0 0), .v (.slice none 0 0), .v (.slice none 0 0), .v (.slice none 0 0)] 170), (19, .row 1 1 [ii 0] 3), (29, .row 1 1 [ii 0] 3), (39, .row 1 1 [ii 0] 3), (49, .row 1 1 [ii 0] 3), (59, .row 1 1 [ii 0] 3), (10, .row 2 1 [ii 0, ii 0] 139), (6, .kmap false true []), (2, .cells [.opq 3, ii inp, .v (.slice none 0 0)] 25), (3, .row 8 1 (([prm1].flatMap Prm.vals).map .v) 60), (1, .pin plp)]) 64 ⟨⟨rfl, (show 2 < 64 by decide)⟩, ⟨rfl, (show 12 < 64 by decide)⟩, ⟨rfl, trivial⟩, trivial⟩ ⟨⟨rfl, (show 12 < 64 by decide), by simp [SObj.sc, SV.scs, SV.sc]⟩, ⟨rfl, (show 19 < 64 by decide), by simp [SObj.sc, SV.scs, SV.sc]⟩, ⟨rfl, (show 29 < 64 by decide), by simp [SObj.sc, SV.scs, SV.sc]⟩, ⟨rfl, (show 39 < 64 by decide), by simp [SObj.sc, SV.scs, SV.sc]⟩, ⟨rfl, (show 49 < 64 by decide), by simp [SObj.sc, SV.scs, SV.sc]⟩, ⟨rfl, (show 59 < 64 by decide), by simp [SObj.sc, SV.scs, SV.sc]⟩, ⟨rfl, (show 10 < 64 by decide), by simp [SObj.sc, SV.scs, SV.sc]⟩, ⟨rfl, (show 6 < 64 by decide), trivial⟩, ⟨rfl, (show 2 < 64 by decide), by simp [SObj.sc, SV.scs, SV.sc]⟩, ⟨rfl, by omega, scs_v _ _⟩, ⟨rfl, by omega, fun p hp => Nat.lt_of_lt_of_le (hcov.1 p hp) (show 1 ≤ 64 by decide)⟩, trivial⟩ (fun p hp => by have := hLB p hp; omega) ?_
  refine Run.of_wpK (hc w L0 none (fun _ h => by cases h)) 1000 _ ?_
  conv => whnf
  refine Run.draw (hc w L0 none (fun _ h => by cases h)) 10 ?_
  conv => whnf
  refine ⟨by decide, ?_⟩
  conv => whnf
  refine ⟨by kernel_rfl, ?_⟩
  refine Run.of_wpK (hc w L0 none (fun _ h => by cases h)) 1000 _ ?_
  conv => whnf
  refine Run.trim (T' := [(1, .ptr 2 0), (3, .ptr 12 0), (18, ii 6)]) (M' := [(12, .cells [.opq 3, ii inp, .v (.slice none 0 0), .mp 6, ii 0, .opq 10, .opq 19, .opq 29, .opq 39, .opq 49, .opq 59, .opq 69, .v (.slice none 0 0), .v (.slice none 0 0), .v (.slice none 0 0), .v (.slice none 0 0), .v (.slice none 0 0), .v (.slice none 0 0), .v (.slice none 0 0), .v (.slice none 0 0), .v (.slice none 0 0), .v (.slice none 0 0)] 170), (19, .row 1 1 [ii 0] 3), (29, .row 1 1 [ii 0] 3), (39, .row 1 1 [ii 0] 3), (49, .row 1 1 [ii 0] 3), (59, .row 1 1 [ii 0] 3), (69, .row 1 1 [ii 0] 3), (10, .row 2 1 [ii 0, ii 0] 139), (6, .kmap false true []), (2, .cells [.opq 3, ii inp, .v (.slice none 0 0)] 25), (3, .row 8 1 (([prm1].flatMap Prm.vals).map .v) 60), (1, .pin plp)]) 74 ⟨⟨rfl, (show 2 < 74 by decide)⟩, ⟨rfl, (show 12 < 74 by decide)⟩, ⟨rfl, trivial⟩, trivial⟩ ⟨⟨rfl, (show 12 < 74 by decide), by simp [SObj.sc, SV.scs, SV.sc]⟩, ⟨rfl, (show 19 < 74 by decide), by simp [SObj.sc, SV.scs, SV.sc]⟩, ⟨rfl, (show 29 < 74 by decide), by simp [SObj.sc, SV.scs, SV.sc]⟩, ⟨rfl, (show 39 < 74 by decide), by simp [SObj.sc, SV.scs, SV.sc]⟩, ⟨rfl, (show 49 < 74 by decide), by simp [SObj.sc, SV.scs, SV.sc]⟩, ⟨rfl, (show 59 < 74 by decide), by simp [SObj.sc, SV.scs, SV.sc]⟩, ⟨rfl, (show 69 < 74 by decide), by simp [SObj.sc, SV.scs, SV.sc]⟩, ⟨rfl, (show 10 < 74 by decide), by simp [SObj.sc, SV.scs, SV.sc]⟩, ⟨rfl, (show 6 < 74 by decide), trivial⟩, ⟨rfl, (show 2 < 74 by decide), by simp [SObj.sc, SV.scs, SV.sc]⟩, ⟨rfl, by omega, scs_v _ _⟩, ⟨rfl, by omega, fun p hp => Nat.lt_of_lt_of_le (hcov.1 p hp) (show 1 ≤ 74 by decide)⟩, trivial⟩ (fun p hp => by have := hLB p hp; omega) ?_
  refine Run.of_wpK (hc w L0 none (fun _ h => by cases h)) 1000 _ ?_
  conv => whnf
  refine Run.draw (hc w L0 none (fun _ h => by cases h)) 10 ?_
  conv => whnf
  refine ⟨by decide, ?_⟩
  conv => whnf
  refine ⟨by kernel_rfl, ?_⟩
  refine Run.of_wpK (hc w L0 none (fun _ h => by cases h)) 1000 _ ?_
  conv => whnf
  refine Run.trim (T' := [(1, .ptr 2 0), (3, .ptr 12 0), (18, ii 7)]) (M' := [(12, .cells [.opq 3, ii inp, .v (.slice none 0 0), .mp 6, ii 0, .opq 10, .opq 19, .opq 29, .opq 39, .opq 49, .opq 59, .opq 69, .opq 79, .v (.slice none 0 0), .v (.slice none 0 0), .v (.slice none 0 0), .v (.slice none 0 0), .v (.slice none 0 0), .v (.slice none 0 0), .v (.slice none 0 0), .v (.slice none 0 0), .v (.slice none 0 0)] 170), (19, .row 1 1 [ii 0] 3), (29, .row 1 1 [ii 0] 3), (39, .row 1 1 [ii 0] 3), (49, .row 1 1 [ii 0] 3), (59, .row 1 1 [ii 0] 3), (69, .row 1 1 [ii 0] 3), (79, .row 1 1 [ii 0] 3), (10, .row 2 1 [ii 0, ii 0] 139), (6, .kmap false true []), (2, .cells [.opq 3, ii inp, .v (.slice none 0 0)] 25), (3, .row 8 1 (([prm1].flatMap Prm.vals).map .v) 60), (1, .pin plp)]) 84 ⟨⟨rfl, (show 2 < 84 by decide)⟩, ⟨rfl, (show 12 < 84 by decide)⟩, ⟨rfl, trivial⟩, trivial⟩ ⟨⟨rfl, (show 12 < 84 by decide), by simp [SObj.sc, SV.scs, SV.sc]⟩, ⟨rfl, (show 19 < 84 by decide), by simp [SObj.sc, SV.scs, SV.sc]⟩, ⟨rfl, (show 29 < 84 by decide), by simp [SObj.sc, SV.scs, SV.sc]⟩, ⟨rfl, (show 39 < 84 by decide), by simp [SObj.sc, SV.scs, SV.sc]⟩, ⟨rfl, (show 49 < 84 by decide), by simp [SObj.sc, SV.scs, SV.sc]⟩, ⟨rfl, (show 59 < 84 by decide), by simp [SObj.sc, SV.scs, SV.sc]⟩, ⟨rfl, (show 69 < 84 by decide), by simp [SObj.sc, SV.scs, SV.sc]⟩, ⟨rfl, (show 79 < 84 by decide), by simp [SObj.sc, SV.scs, SV.sc]⟩, ⟨rfl, (show 10 < 84 by decide), by simp [SObj.sc, SV.scs, SV.sc]⟩, ⟨rfl, (show 6 < 84 by decide), trivial⟩, ⟨rfl, (show 2 < 84 by decide), by simp [SObj.sc, SV.scs, SV.sc]⟩, ⟨rfl, by omega, scs_v _ _⟩, ⟨rfl, by omega, fun p hp => Nat.lt_of_lt_of_le (hcov.1 p hp) (show 1 ≤ 84 by decide)⟩, trivial⟩ (fun p hp => by have := hLB p hp; omega) ?_
  refine Run.of_wpK (hc w L0 none (fun _ h => by cases h)) 1000 _ ?_
  conv => whnf
  refine Run.draw (hc w L0 none (fun _ h => by cases h)) 10 ?_
  conv => whnf
  refine ⟨by decide, ?_⟩
  conv => whnf
  refine ⟨by kernel_rfl, ?_⟩
  refine Run.of_wpK (hc w L0 none (fun _ h => by cases h)) 1000 _ ?_
  conv => whnf
  refine Run.trim (T' := [(1, .ptr 2 0), (3, .ptr 12 0), (18, ii 8)]) (M' := [(12, .cells [.opq 3, ii inp, .v (.slice none 0 0), .mp 6, ii 0, .opq 10, .opq 19, .opq 29, .opq 39, .opq 49, .opq 59, .opq 69, .opq 79, .opq 89, .v (.slice none 0 0), .v (.slice none 0 0), .v (.slice none 0 0), .v (.slice none 0 0), .v (.slice none 0 0), .v (.slice none 0 0), .v (.slice none 0 0), .v (.slice none 0 0)] 170), (19, .row 1 1 [ii 0] 3), (29, .row 1 1 [ii 0] 3), (39, .row 1 1 [ii 0] 3), (49, .row 1 1 [ii 0] 3), (59, .row 1 1 [ii 0] 3), (69, .row 1 1 [ii 0] 3), (79, .row 1 1 [ii 0] 3), (89, .row 1 1 [ii 0] 3), (10, .row 2 1 [ii 0, ii 0] 139), (6, .kmap false true []), (2, .cells [.opq 3, ii inp, .v (.slice none 0 0)] 25), (3, .row 8 1 (([prm1].flatMap Prm.vals).map .v) 60), (1, .pin plp)]) 94 ⟨⟨rfl, (show 2 < 94 by decide)⟩, ⟨rfl, (show 12 < 94 by decide)⟩, ⟨rfl, trivial⟩, trivial⟩ ⟨⟨rfl, (show 12 < 94 by decide), by simp [SObj.sc, SV.scs, SV.sc]⟩, ⟨rfl, (show 19 < 94 by decide), by simp [SObj.sc, SV.scs, SV.sc]⟩, ⟨rfl, (show 29 < 94 by decide), by simp [SObj.sc, SV.scs, SV.sc]⟩, ⟨rfl, (show 39 < 94 by decide), by simp [SObj.sc, SV.scs, SV.sc]⟩, ⟨rfl, (show 49 < 94 by decide), by simp [SObj.sc, SV.scs, SV.sc]⟩, ⟨rfl, (show 59 < 94 by decide), by simp [SObj.sc, SV.scs, SV.sc]⟩, ⟨rfl, (show 69 < 94 by decide), by simp [SObj.sc, SV.scs, SV.sc]⟩, ⟨rfl, (show 79 < 94 by decide), by simp [SObj.sc, SV.scs, SV.sc]⟩, ⟨rfl, (show 89 < 94 by decide), by simp [SObj.sc, SV.scs, SV.sc]⟩, ⟨rfl, (show 10 < 94 by decide), by simp [SObj.sc, SV.scs, SV.sc]⟩, ⟨rfl, (show 6 < 94 by decide), trivial⟩, ⟨rfl, (show 2 < 94 by decide), by simp [SObj.sc, SV.scs, SV.sc]⟩, ⟨rfl, by omega, scs_v _ _⟩, ⟨rfl, by omega, fun p hp => Nat.lt_of_lt_of_le (hcov.1 p hp) (show 1 ≤ 94 by decide)⟩, trivial⟩ (fun p hp => by have := hLB p hp; omega) ?_
  refine Run.of_wpK (hc w L0 none (fun _ h => by cases h)) 1000 _ ?_
  conv => whnf
  refine Run.draw (hc w L0 none (fun _ h => by cases h)) 10 ?_
  conv => whnf
  refine ⟨by decide, ?_⟩
  conv => whnf
  refine ⟨by kernel_rfl, ?_⟩
  refine Run.of_wpK (hc w L0 none (fun _ h => by cases h)) 1000 _ ?_
  conv => whnf
  refine Run.trim (T' := [(1, .ptr 2 0), (3, .ptr 12 0), (18, ii 9)]) (M' := [(12, .cells [.opq 3, ii inp, .v (.slice none 0 0), .mp 6, ii 0, .opq 10, .opq 19, .opq 29, .opq 39, .opq 49, .opq 59, .opq 69, .opq 79, .opq 89, .opq 99, .v (.slice none 0 0), .v (.slice none 0 0), .v (.slice none 0 0), .v (.slice none 0 0), .v (.slice none 0 0), .v (.slice none 0 0), .v (.slice none 0 0)] 170), (19, .row 1 1 [ii 0] 3), (29, .row 1 1 [ii 0] 3), (39, .row 1 1 [ii 0] 3), (49, .row 1 1 [ii 0] 3), (59, .row 1 1 [ii 0] 3), (69, .row 1 1 [ii 0] 3), (79, .row 1 1 [ii 0] 3), (89, .row 1 1 [ii 0] 3), (99, .row 1 1 [ii 0] 3), (10, .row 2 1 [ii 0, ii 0] 139), (6, .kmap false true []), (2, .cells [.opq 3, ii inp, .v (.slice none 0 0)] 25), (3, .row 8 1 (([prm1].flatMap Prm.vals).map .v) 60), (1, .pin plp)]) 104 ⟨⟨rfl, (show 2 < 104 by decide)⟩, ⟨rfl, (show 12 < 104 by decide)⟩, ⟨rfl, trivial⟩, trivial⟩ ⟨⟨rfl, (show 12 < 104 by decide), by simp [SObj.sc, SV.scs, SV.sc]⟩, ⟨rfl, (show 19 < 104 by decide), by simp [SObj.sc, SV.scs, SV.sc]⟩, ⟨rfl, (show 29 < 104 by decide), by simp [SObj.sc, SV.scs, SV.sc]⟩, ⟨rfl, (show 39 < 104 by decide), by simp [SObj.sc, SV.scs, SV.sc]⟩, ⟨rfl, (show 49 < 104 by decide), by simp [SObj.sc, SV.scs, SV.sc]⟩, ⟨rfl, (show 59 < 104 by decide), by simp [SObj.sc, SV.scs, SV.sc]⟩, ⟨rfl, (show 69 < 104 by decide), by simp [SObj.sc, SV.scs, SV.sc]⟩, ⟨rfl, (show 79 < 104 by decide), by simp [SObj.sc, SV.scs, SV.sc]⟩, ⟨rfl, (show 89 < 104 by decide), by simp [SObj.sc, SV.scs, SV.sc]⟩, ⟨rfl, (show 99 < 104 by decide), by simp [SObj.sc, SV.scs, SV.sc]⟩, ⟨rfl, (show 10 < 104 by decide), by simp [SObj.sc, SV.scs, SV.sc]⟩, ⟨rfl, (show 6 < 104 by decide), trivial⟩, ⟨rfl, (show 2 < 104 by decide), by simp [SObj.sc, SV.scs, SV.sc]⟩, ⟨rfl, by omega, scs_v _ _⟩, ⟨rfl, by omega, fun p hp => Nat.lt_of_lt_of_le (hcov.1 p hp) (show 1 ≤ 104 by decide)⟩, trivial⟩ (fun p hp => by have := hLB p hp; omega) ?_
  refine Run.of_wpK (hc w L0 none (fun _ h => by cases h)) 1000 _ ?_
  conv => whnf
  refine Run.draw (hc w L0 none (fun _ h => by cases h)) 10 ?_
  conv => whnf
  refine ⟨by decide, ?_⟩
  conv => whnf
  refine ⟨by kernel_rfl, ?_⟩
  refine Run.of_wpK (hc w L0 none (fun _ h => by cases h)) 1000 _ ?_
  conv => whnf
  refine Run.trim (T' := [(1, .ptr 2 0), (3, .ptr 12 0), (18, ii 10)]) (M' := [(12, .cells [.opq 3, ii inp, .v (.slice none 0 0), .mp 6, ii 0, .opq 10, .opq 19, .opq 29, .opq 39, .opq 49, .opq 59, .opq 69, .opq 79, .opq 89, .opq 99, .opq 109, .v (.slice none 0 0), .v (.slice none 0 0), .v (.slice none 0 0), .v (.slice none 0 0), .v (.slice none 0 0), .v (.slice none 0 0)] 170), (19, .row 1 1 [ii 0] 3), (29, .row 1 1 [ii 0] 3), (39, .row 1 1 [ii 0] 3), (49, .row 1 1 [ii 0] 3), (59, .row 1 1 [ii 0] 3), (69, .row 1 1 [ii 0] 3), (79, .row 1 1 [ii 0] 3), (89, .row 1 1 [ii 0] 3), (99, .row 1 1 [ii 0] 3), (109, .row 1 1 [ii 0] 3), (10, .row 2 1 [ii 0, ii 0] 139), (6, .kmap false true []), (2, .cells [.opq 3, ii inp, .v (.slice none 0 0)] 25), (3, .row 8 1 (([prm1].flatMap Prm.vals).map .v) 60), (1, .pin plp)]) 114 ⟨⟨rfl, (show 2 < 114 by decide)⟩, ⟨rfl, (show 12 < 114 by decide)⟩, ⟨rfl, trivial⟩, trivial⟩ ⟨⟨rfl, (show 12 < 114 by decide), by simp [SObj.sc, SV.scs, SV.sc]⟩, ⟨rfl, (show 19 < 114 by decide), by simp [SObj.sc, SV.scs, SV.sc]⟩, ⟨rfl, (show 29 < 114 by decide), by simp [SObj.sc, SV.scs, SV.sc]⟩, ⟨rfl, (show 39 < 114 by decide), by simp [SObj.sc, SV.scs, SV.sc]⟩, ⟨rfl, (show 49 < 114 by decide), by simp [SObj.sc, SV.scs, SV.sc]⟩, ⟨rfl, (show 59 < 114 by decide), by simp [SObj.sc, SV.scs, SV.sc]⟩, ⟨rfl, (show 69 < 114 by decide), by simp [SObj.sc, SV.scs, SV.sc]⟩, ⟨rfl, (show 79 < 114 by decide), by simp [SObj.sc, SV.scs, SV.sc]⟩, ⟨rfl, (show 89 < 114 by decide), by simp [SObj.sc, SV.scs, SV.sc]⟩, ⟨rfl, (show 99 < 114 by decide), by simp [SObj.sc, SV.scs, SV.sc]⟩, ⟨rfl, (show 109 < 114 by decide), by simp [SObj.sc, SV.scs, SV.sc]⟩, ⟨rfl, (show 10 < 114 by decide), by simp [SObj.sc, SV.scs, SV.sc]⟩, ⟨rfl, (show 6 < 114 by decide), trivial⟩, ⟨rfl, (show 2 < 114 by decide), by simp [SObj.sc, SV.scs, SV.sc]⟩, ⟨rfl, by omega, scs_v _ _⟩, ⟨rfl, by omega, fun p hp => Nat.lt_of_lt_of_le (hcov.1 p hp) (show 1 ≤ 114 by decide)⟩, trivial⟩ (fun p hp => by have := hLB p hp; omega) ?_
  refine Run.of_wpK (hc w L0 none (fun _ h => by cases h)) 1000 _ ?_
  conv => whnf
  refine Run.draw (hc w L0 none (fun _ h => by cases h)) 10 ?_
  conv => whnf
  refine ⟨by decide, ?_⟩
  conv => whnf
  refine ⟨by kernel_rfl, ?_⟩
  refine Run.of_wpK (hc w L0 none (fun _ h => by cases h)) 1000 _ ?_
  conv => whnf
  refine Run.trim (T' := [(1, .ptr 2 0), (3, .ptr 12 0), (18, ii 11)]) (M' := [(12, .cells [.opq 3, ii inp, .v (.slice none 0 0), .mp 6, ii 0, .opq 10, .opq 19, .opq 29, .opq 39, .opq 49, .opq 59, .opq 69, .opq 79, .opq 89, .opq 99, .opq 109, .opq 119, .v (.slice none 0 0), .v (.slice none 0 0), .v (.slice none 0 0), .v (.slice none 0 0), .v (.slice none 0 0)] 170), (19, .row 1 1 [ii 0] 3), (29, .row 1 1 [ii 0] 3), (39, .row 1 1 [ii 0] 3), (49, .row 1 1 [ii 0] 3), (59, .row 1 1 [ii 0] 3), (69, .row 1 1 [ii 0] 3), (79, .row 1 1 [ii 0] 3), (89, .row 1 1 [ii 0] 3), (99, .row 1 1 [ii 0] 3), (109, .row 1 1 [ii 0] 3), (119, .row 1 1 [ii 0] 3), (10, .row 2 1 [ii 0, ii 0] 139), (6, .kmap false true []), (2, .cells [.opq 3, ii inp, .v (.slice none 0 0)] 25), (3, .row 8 1 (([prm1].flatMap Prm.vals).map .v) 60), (1, .pin plp)]) 124 ⟨⟨rfl, (show 2 < 124 by decide)⟩, ⟨rfl, (show 12 < 124 by decide)⟩, ⟨rfl, trivial⟩, trivial⟩ ⟨⟨rfl, (show 12 < 124 by decide), by simp [SObj.sc, SV.scs, SV.sc]⟩, ⟨rfl, (show 19 < 124 by decide), by simp [SObj.sc, SV.scs, SV.sc]⟩, ⟨rfl, (show 29 < 124 by decide), by simp [SObj.sc, SV.scs, SV.sc]⟩, ⟨rfl, (show 39 < 124 by decide), by simp [SObj.sc, SV.scs, SV.sc]⟩, ⟨rfl, (show 49 < 124 by decide), by simp [SObj.sc, SV.scs, SV.sc]⟩, ⟨rfl, (show 59 < 124 by decide), by simp [SObj.sc, SV.scs, SV.sc]⟩, ⟨rfl, (show 69 < 124 by decide), by simp [SObj.sc, SV.scs, SV.sc]⟩, ⟨rfl, (show 79 < 124 by decide), by simp [SObj.sc, SV.scs, SV.sc]⟩, ⟨rfl, (show 89 < 124 by decide), by simp [SObj.sc, SV.scs, SV.sc]⟩, ⟨rfl, (show 99 < 124 by decide), by simp [SObj.sc, SV.scs, SV.sc]⟩, ⟨rfl, (show 109 < 124 by decide), by simp [SObj.sc, SV.scs, SV.sc]⟩, ⟨rfl, (show 119 < 124 by decide), by simp [SObj.sc, SV.scs, SV.sc]⟩, ⟨rfl, (show 10 < 124 by decide), by simp [SObj.sc, SV.scs, SV.sc]⟩, ⟨rfl, (show 6 < 124 by decide), trivial⟩, ⟨rfl, (show 2 < 124 by decide), by simp [SObj.sc, SV.scs, SV.sc]⟩, ⟨rfl, by omega, scs_v _ _⟩, ⟨rfl, by omega, fun p hp => Nat.lt_of_lt_of_le (hcov.1 p hp) (show 1 ≤ 124 by decide)⟩, trivial⟩ (fun p hp => by have := hLB p hp; omega) ?_
  refine Run.of_wpK (hc w L0 none (fun _ h => by cases h)) 1000 _ ?_
  conv => whnf
  refine Run.draw (hc w L0 none (fun _ h => by cases h)) 10 ?_
  conv => whnf
  refine ⟨by decide, ?_⟩
  conv => whnf
  refine ⟨by kernel_rfl, ?_⟩
  refine Run.of_wpK (hc w L0 none (fun _ h => by cases h)) 1000 _ ?_
  conv => whnf
  refine Run.trim (T' := [(1, .ptr 2 0), (3, .ptr 12 0), (18, ii 12)]) (M' := [(12, .cells [.opq 3, ii inp, .v (.slice none 0 0), .mp 6, ii 0, .opq 10, .opq 19, .opq 29, .opq 39, .opq 49, .opq 59, .opq 69, .opq 79, .opq 89, .opq 99, .opq 109, .opq 119, .opq 129, .v (.slice none 0 0), .v (.slice none 0 0), .v (.slice none 0 0), .v (.slice none 0 0)] 170), (19, .row 1 1 [ii 0] 3), (29, .row 1 1 [ii 0] 3), (39, .row 1 1 [ii 0] 3), (49, .row 1 1 [ii 0] 3), (59, .row 1 1 [ii 0] 3), (69, .row 1 1 [ii 0] 3), (79, .row 1 1 [ii 0] 3), (89, .row 1 1 [ii 0] 3), (99, .row 1 1 [ii 0] 3), (109, .row 1 1 [ii 0] 3), (119, .row 1 1 [ii 0] 3), (129, .row 1 1 [ii 0] 3), (10, .row 2 1 [ii 0, ii 0] 139), (6, .kmap false true []), (2, .cells [.opq 3, ii inp, .v (.slice none 0 0)] 25), (3, .row 8 1 (([prm1].flatMap Prm.vals).map .v) 60), (1, .pin plp)]) 134 ⟨⟨rfl, (show 2 < 134 by decide)⟩, ⟨rfl, (show 12 < 134 by decide)⟩, ⟨rfl, trivial⟩, trivial⟩ ⟨⟨rfl, (show 12 < 134 by decide), by simp [SObj.sc, SV.scs, SV.sc]⟩, ⟨rfl, (show 19 < 134 by decide), by simp [SObj.sc, SV.scs, SV.sc]⟩, ⟨rfl, (show 29 < 134 by decide), by simp [SObj.sc, SV.scs, SV.sc]⟩, ⟨rfl, (show 39 < 134 by decide), by simp [SObj.sc, SV.scs, SV.sc]⟩, ⟨rfl, (show 49 < 134 by decide), by simp [SObj.sc, SV.scs, SV.sc]⟩, ⟨rfl, (show 59 < 134 by decide), by simp [SObj.sc, SV.scs, SV.sc]⟩, ⟨rfl, (show 69 < 134 by decide), by simp [SObj.sc, SV.scs, SV.sc]⟩, ⟨rfl, (show 79 < 134 by decide), by simp [SObj.sc, SV.scs, SV.sc]⟩, ⟨rfl, (show 89 < 134 by decide), by simp [SObj.sc, SV.scs, SV.sc]⟩, ⟨rfl, (show 99 < 134 by decide), by simp [SObj.sc, SV.scs, SV.sc]⟩, ⟨rfl, (show 109 < 134 by decide), by simp [SObj.sc, SV.scs, SV.sc]⟩, ⟨rfl, (show 119 < 134 by decide), by simp [SObj.sc, SV.scs, SV.sc]⟩, ⟨rfl, (show 129 < 134 by decide), by simp [SObj.sc, SV.scs, SV.sc]⟩, ⟨rfl, (show 10 < 134 by decide), by simp [SObj.sc, SV.scs, SV.sc]⟩, ⟨rfl, (show 6 < 134 by decide), trivial⟩, ⟨rfl, (show 2 < 134 by decide), by simp [SObj.sc, SV.scs, SV.sc]⟩, ⟨rfl, by omega, scs_v _ _⟩, ⟨rfl, by omega, fun p hp => Nat.lt_of_lt_of_le (hcov.1 p hp) (show 1 ≤ 134 by decide)⟩, trivial⟩ (fun p hp => by have := hLB p hp; omega) ?_
  refine Run.of_wpK (hc w L0 none (fun _ h => by cases h)) 1000 _ ?_
  conv => whnf
  refine Run.draw (hc w L0 none (fun _ h => by cases h)) 10 ?_
  conv => whnf
  refine ⟨by decide, ?_⟩
  conv => whnf
  refine ⟨by kernel_rfl, ?_⟩
  refine Run.of_wpK (hc w L0 none (fun _ h => by cases h)) 1000 _ ?_
  conv => whnf
  refine Run.trim (T' := [(1, .ptr 2 0), (3, .ptr 12 0), (18, ii 13)]) (M' := [(12, .cells [.opq 3, ii inp, .v (.slice none 0 0), .mp 6, ii 0, .opq 10, .opq 19, .opq 29, .opq 39, .opq 49, .opq 59, .opq 69, .opq 79, .opq 89, .opq 99, .opq 109, .opq 119, .opq 129, .opq 139, .v (.slice none 0 0), .v (.slice none 0 0), .v (.slice none 0 0)] 170), (19, .row 1 1 [ii 0] 3), (29, .row 1 1 [ii 0] 3), (39, .row 1 1 [ii 0] 3), (49, .row 1 1 [ii 0] 3), (59, .row 1 1 [ii 0] 3), (69, .row 1 1 [ii 0] 3), (79, .row 1 1 [ii 0] 3), (89, .row 1 1 [ii 0] 3), (99, .row 1 1 [ii 0] 3), (109, .row 1 1 [ii 0] 3), (119, .row 1 1 [ii 0] 3), (129, .row 1 1 [ii 0] 3), (139, .row 1 1 [ii 0] 3), (10, .row 2 1 [ii 0, ii 0] 139), (6, .kmap false true []), (2, .cells [.opq 3, ii inp, .v (.slice none 0 0)] 25), (3, .row 8 1 (([prm1].flatMap Prm.vals).map .v) 60), (1, .pin plp)]) 144 ⟨⟨rfl, (show 2 < 144 by decide)⟩, ⟨rfl, (show 12 < 144 by decide)⟩, ⟨rfl, trivial⟩, trivial⟩ ⟨⟨rfl, (show 12 < 144 by decide), by simp [SObj.sc, SV.scs, SV.sc]⟩, ⟨rfl, (show 19 < 144 by decide), by simp [SObj.sc, SV.scs, SV.sc]⟩, ⟨rfl, (show 29 < 144 by decide), by simp [SObj.sc, SV.scs, SV.sc]⟩, ⟨rfl, (show 39 < 144 by decide), by simp [SObj.sc, SV.scs, SV.sc]⟩, ⟨rfl, (show 49 < 144 by decide), by simp [SObj.sc, SV.scs, SV.sc]⟩, ⟨rfl, (show 59 < 144 by decide), by simp [SObj.sc, SV.scs, SV.sc]⟩, ⟨rfl, (show 69 < 144 by decide), by simp [SObj.sc, SV.scs, SV.sc]⟩, ⟨rfl, (show 79 < 144 by decide), by simp [SObj.sc, SV.scs, SV.sc]⟩, ⟨rfl, (show 89 < 144 by decide), by simp [SObj.sc, SV.scs, SV.sc]⟩, ⟨rfl, (show 99 < 144 by decide), by simp [SObj.sc, SV.scs, SV.sc]⟩, ⟨rfl, (show 109 < 144 by decide), by simp [SObj.sc, SV.scs, SV.sc]⟩, ⟨rfl, (show 119 < 144 by decide), by simp [SObj.sc, SV.scs, SV.sc]⟩, ⟨rfl, (show 129 < 144 by decide), by simp [SObj.sc, SV.scs, SV.sc]⟩, ⟨rfl, (show 139 < 144 by decide), by simp [SObj.sc, SV.scs, SV.sc]⟩, ⟨rfl, (show 10 < 144 by decide), by simp [SObj.sc, SV.scs, SV.sc]⟩, ⟨rfl, (show 6 < 144 by decide), trivial⟩, ⟨rfl, (show 2 < 144 by decide), by simp [SObj.sc, SV.scs, SV.sc]⟩, ⟨rfl, by omega, scs_v _ _⟩, ⟨rfl, by omega, fun p hp => Nat.lt_of_lt_of_le (hcov.1 p hp) (show 1 ≤ 144 by decide)⟩, trivial⟩ (fun p hp => by have := hLB p hp; omega) ?_
  refine Run.of_wpK (hc w L0 none (fun _ h => by cases h)) 1000 _ ?_
  conv => whnf
  refine Run.draw (hc w L0 none (fun _ h => by cases h)) 10 ?_
  conv => whnf
  refine ⟨by decide, ?_⟩
  conv => whnf
  refine ⟨by kernel_rfl, ?_⟩
  refine Run.of_wpK (hc w L0 none (fun _ h => by cases h)) 1000 _ ?_
  conv => whnf
  refine Run.trim (T' := [(1, .ptr 2 0), (3, .ptr 12 0), (18, ii 14)]) (M' := [(12, .cells [.opq 3, ii inp, .v (.slice none 0 0), .mp 6, ii 0, .opq 10, .opq 19, .opq 29, .opq 39, .opq 49, .opq 59, .opq 69, .opq 79, .opq 89, .opq 99, .opq 109, .opq 119, .opq 129, .opq 139, .opq 149, .v (.slice none 0 0), .v (.slice none 0 0)] 170), (19, .row 1 1 [ii 0] 3), (29, .row 1 1 [ii 0] 3), (39, .row 1 1 [ii 0] 3), (49, .row 1 1 [ii 0] 3), (59, .row 1 1 [ii 0] 3), (69, .row 1 1 [ii 0] 3), (79, .row 1 1 [ii 0] 3), (89, .row 1 1 [ii 0] 3), (99, .row 1 1 [ii 0] 3), (109, .row 1 1 [ii 0] 3), (119, .row 1 1 [ii 0] 3), (129, .row 1 1 [ii 0] 3), (139, .row 1 1 [ii 0] 3), (149, .row 1 1 [ii 0] 3), (10, .row 2 1 [ii 0, ii 0] 139), (6, .kmap false true []), (2, .cells [.opq 3, ii inp, .v (.slice none 0 0)] 25), (3, .row 8 1 (([prm1].flatMap Prm.vals).map .v) 60), (1, .pin plp)]) 154 ⟨⟨rfl, (show 2 < 154 by decide)⟩, ⟨rfl, (show 12 < 154 by decide)⟩, ⟨rfl, trivial⟩, trivial⟩ ⟨⟨rfl, (show 12 < 154 by decide), by simp [SObj.sc, SV.scs, SV.sc]⟩, ⟨rfl, (show 19 < 154 by decide), by simp [SObj.sc, SV.scs, SV.sc]⟩, ⟨rfl, (show 29 < 154 by decide), by simp [SObj.sc, SV.scs, SV.sc]⟩, ⟨rfl, (show 39 < 154 by decide), by simp [SObj.sc, SV.scs, SV.sc]⟩, ⟨rfl, (show 49 < 154 by decide), by simp [SObj.sc, SV.scs, SV.sc]⟩, ⟨rfl, (show 59 < 154 by decide), by simp [SObj.sc, SV.scs, SV.sc]⟩, ⟨rfl, (show 69 < 154 by decide), by simp [SObj.sc, SV.scs, SV.sc]⟩, ⟨rfl, (show 79 < 154 by decide), by simp [SObj.sc, SV.scs, SV.sc]⟩, ⟨rfl, (show 89 < 154 by decide), by simp [SObj.sc, SV.scs, SV.sc]⟩, ⟨rfl, (show 99 < 154 by decide), by simp [SObj.sc, SV.scs, SV.sc]⟩, ⟨rfl, (show 109 < 154 by decide), by simp [SObj.sc, SV.scs, SV.sc]⟩, ⟨rfl, (show 119 < 154 by decide), by simp [SObj.sc, SV.scs, SV.sc]⟩, ⟨rfl, (show 129 < 154 by decide), by simp [SObj.sc, SV.scs, SV.sc]⟩, ⟨rfl, (show 139 < 154 by decide), by simp [SObj.sc, SV.scs, SV.sc]⟩, ⟨rfl, (show 149 < 154 by decide), by simp [SObj.sc, SV.scs, SV.sc]⟩, ⟨rfl, (show 10 < 154 by decide), by simp [SObj.sc, SV.scs, SV.sc]⟩, ⟨rfl, (show 6 < 154 by decide), trivial⟩, ⟨rfl, (show 2 < 154 by decide), by simp [SObj.sc, SV.scs, SV.sc]⟩, ⟨rfl, by omega, scs_v _ _⟩, ⟨rfl, by omega, fun p hp => Nat.lt_of_lt_of_le (hcov.1 p hp) (show 1 ≤ 154 by decide)⟩, trivial⟩ (fun p hp => by have := hLB p hp; omega) ?_
  refine Run.of_wpK (hc w L0 none (fun _ h => by cases h)) 1000 _ ?_
  conv => whnf
  refine Run.draw (hc w L0 none (fun _ h => by cases h)) 10 ?_
  conv => whnf
  refine ⟨by decide, ?_⟩
  conv => whnf
  refine ⟨by kernel_rfl, ?_⟩
  refine Run.of_wpK (hc w L0 none (fun _ h => by cases h)) 1000 _ ?_
  conv => whnf
  refine Run.trim (T' := [(1, .ptr 2 0), (3, .ptr 12 0), (18, ii 15)]) (M' := [(12, .cells [.opq 3, ii inp, .v (.slice none 0 0), .mp 6, ii 0, .opq 10, .opq 19, .opq 29, .opq 39, .opq 49, .opq 59, .opq 69, .opq 79, .opq 89, .opq 99, .opq 109, .opq 119, .opq 129, .opq 139, .opq 149, .opq 159, .v (.slice none 0 0)] 170), (19, .row 1 1 [ii 0] 3), (29, .row 1 1 [ii 0] 3), (39, .row 1 1 [ii 0] 3), (49, .row 1 1 [ii 0] 3), (59, .row 1 1 [ii 0] 3), (69, .row 1 1 [ii 0] 3), (79, .row 1 1 [ii 0] 3), (89, .row 1 1 [ii 0] 3), (99, .row 1 1 [ii 0] 3), (109, .row 1 1 [ii 0] 3), (119, .row 1 1 [ii 0] 3), (129, .row 1 1 [ii 0] 3), (139, .row 1 1 [ii 0] 3), (149, .row 1 1 [ii 0] 3), (159, .row 1 1 [ii 0] 3), (10, .row 2 1 [ii 0, ii 0] 139), (6, .kmap false true []), (2, .cells [.opq 3, ii inp, .v (.slice none 0 0)] 25), (3, .row 8 1 (([prm1].flatMap Prm.vals).map .v) 60), (1, .pin plp)]) 164 ⟨⟨rfl, (show 2 < 164 by decide)⟩, ⟨rfl, (show 12 < 164 by decide)⟩, ⟨rfl, trivial⟩, trivial⟩ ⟨⟨rfl, (show 12 < 164 by decide), by simp [SObj.sc, SV.scs, SV.sc]⟩, ⟨rfl, (show 19 < 164 by decide), by simp [SObj.sc, SV.scs, SV.sc]⟩, ⟨rfl, (show 29 < 164 by decide), by simp [SObj.sc, SV.scs, SV.sc]⟩, ⟨rfl, (show 39 < 164 by decide), by simp [SObj.sc, SV.scs, SV.sc]⟩, ⟨rfl, (show 49 < 164 by decide), by simp [SObj.sc, SV.scs, SV.sc]⟩, ⟨rfl, (show 59 < 164 by decide), by simp [SObj.sc, SV.scs, SV.sc]⟩, ⟨rfl, (show 69 < 164 by decide), by simp [SObj.sc, SV.scs, SV.sc]⟩, ⟨rfl, (show 79 < 164 by decide), by simp [SObj.sc, SV.scs, SV.sc]⟩, ⟨rfl, (show 89 < 164 by decide), by simp [SObj.sc, SV.scs, SV.sc]⟩, ⟨rfl, (show 99 < 164 by decide), by simp [SObj.sc, SV.scs, SV.sc]⟩, ⟨rfl, (show 109 < 164 by decide), by simp [SObj.sc, SV.scs, SV.sc]⟩, ⟨rfl, (show 119 < 164 by decide), by simp [SObj.sc, SV.scs, SV.sc]⟩, ⟨rfl, (show 129 < 164 by decide), by simp [SObj.sc, SV.scs, SV.sc]⟩, ⟨rfl, (show 139 < 164 by decide), by simp [SObj.sc, SV.scs, SV.sc]⟩, ⟨rfl, (show 149 < 164 by decide), by simp [SObj.sc, SV.scs, SV.sc]⟩, ⟨rfl, (show 159 < 164 by decide), by simp [SObj.sc, SV.scs, SV.sc]⟩, ⟨rfl, (show 10 < 164 by decide), by simp [SObj.sc, SV.scs, SV.sc]⟩, ⟨rfl, (show 6 < 164 by decide), trivial⟩, ⟨rfl, (show 2 < 164 by decide), by simp [SObj.sc, SV.scs, SV.sc]⟩, ⟨rfl, by omega, scs_v _ _⟩, ⟨rfl, by omega, fun p hp => Nat.lt_of_lt_of_le (hcov.1 p hp) (show 1 ≤ 164 by decide)⟩, trivial⟩ (fun p hp => by have := hLB p hp; omega) ?_
  refine Run.of_wpK (hc w L0 none (fun _ h => by cases h)) 1000 _ ?_
  conv => whnf
  refine Run.draw (hc w L0 none (fun _ h => by cases h)) 10 ?_
  conv => whnf
  refine ⟨by decide, ?_⟩
  conv => whnf
  refine ⟨by kernel_rfl, ?_⟩
  refine Run.of_wpK (hc w L0 none (fun _ h => by cases h)) 1000 _ ?_
  conv => whnf
  refine Run.trim (T' := [(1, .ptr 2 0), (3, .ptr 12 0), (18, ii 16)]) (M' := [(12, .cells [.opq 3, ii inp, .v (.slice none 0 0), .mp 6, ii 0, .opq 10, .opq 19, .opq 29, .opq 39, .opq 49, .opq 59, .opq 69, .opq 79, .opq 89, .opq 99, .opq 109, .opq 119, .opq 129, .opq 139, .opq 149, .opq 159, .opq 169] 170), (19, .row 1 1 [ii 0] 3), (29, .row 1 1 [ii 0] 3), (39, .row 1 1 [ii 0] 3), (49, .row 1 1 [ii 0] 3), (59, .row 1 1 [ii 0] 3), (69, .row 1 1 [ii 0] 3), (79, .row 1 1 [ii 0] 3), (89, .row 1 1 [ii 0] 3), (99, .row 1 1 [ii 0] 3), (109, .row 1 1 [ii 0] 3), (119, .row 1 1 [ii 0] 3), (129, .row 1 1 [ii 0] 3), (139, .row 1 1 [ii 0] 3), (149, .row 1 1 [ii 0] 3), (159, .row 1 1 [ii 0] 3), (169, .row 1 1 [ii 0] 3), (10, .row 2 1 [ii 0, ii 0] 139), (6, .kmap false true []), (2, .cells [.opq 3, ii inp, .v (.slice none 0 0)] 25), (3, .row 8 1 (([prm1].flatMap Prm.vals).map .v) 60), (1, .pin plp)]) 174 ⟨⟨rfl, (show 2 < 174 by decide)⟩, ⟨rfl, (show 12 < 174 by decide)⟩, ⟨rfl, trivial⟩, trivial⟩ ⟨⟨rfl, (show 12 < 174 by decide), by simp [SObj.sc, SV.scs, SV.sc]⟩, ⟨rfl, (show 19 < 174 by decide), by simp [SObj.sc, SV.scs, SV.sc]⟩, ⟨rfl, (show 29 < 174 by decide), by simp [SObj.sc, SV.scs, SV.sc]⟩, ⟨rfl, (show 39 < 174 by decide), by simp [SObj.sc, SV.scs, SV.sc]⟩, ⟨rfl, (show 49 < 174 by decide), by simp [SObj.sc, SV.scs, SV.sc]⟩, ⟨rfl, (show 59 < 174 by decide), by simp [SObj.sc, SV.scs, SV.sc]⟩, ⟨rfl, (show 69 < 174 by decide), by simp [SObj.sc, SV.scs, SV.sc]⟩, ⟨rfl, (show 79 < 174 by decide), by simp [SObj.sc, SV.scs, SV.sc]⟩, ⟨rfl, (show 89 < 174 by decide), by simp [SObj.sc, SV.scs, SV.sc]⟩, ⟨rfl, (show 99 < 174 by decide), by simp [SObj.sc, SV.scs, SV.sc]⟩, ⟨rfl, (show 109 < 174 by decide), by simp [SObj.sc, SV.scs, SV.sc]⟩, ⟨rfl, (show 119 < 174 by decide), by simp [SObj.sc, SV.scs, SV.sc]⟩, ⟨rfl, (show 129 < 174 by decide), by simp [SObj.sc, SV.scs, SV.sc]⟩, ⟨rfl, (show 139 < 174 by decide), by simp [SObj.sc, SV.scs, SV.sc]⟩, ⟨rfl, (show 149 < 174 by decide), by simp [SObj.sc, SV.scs, SV.sc]⟩, ⟨rfl, (show 159 < 174 by decide), by simp [SObj.sc, SV.scs, SV.sc]⟩, ⟨rfl, (show 169 < 174 by decide), by simp [SObj.sc, SV.scs, SV.sc]⟩, ⟨rfl, (show 10 < 174 by decide), by simp [SObj.sc, SV.scs, SV.sc]⟩, ⟨rfl, (show 6 < 174 by decide), trivial⟩, ⟨rfl, (show 2 < 174 by decide), by simp [SObj.sc, SV.scs, SV.sc]⟩, ⟨rfl, by omega, scs_v _ _⟩, ⟨rfl, by omega, fun p hp => Nat.lt_of_lt_of_le (hcov.1 p hp) (show 1 ≤ 174 by decide)⟩, trivial⟩ (fun p hp => by have := hLB p hp; omega) ?_
  refine Run.of_wpK (hc w L0 none (fun _ h => by cases h)) 1000 _ ?_
  conv => whnf
  refine SpecR.introQ (rq [(1, 12), (2, 3), (3, 6), (4, 10), (5, 19), (6, 29), (7, 39), (8, 49), (9, 59), (10, 69), (11, 79), (12, 89), (13, 99), (14, 109), (15, 119), (16, 129), (17, 139), (18, 149), (19, 159), (20, 169)]) (fun i hi => rq_fix (rq_noneB (B := 1) rfl hi)) ?_ (Widens.refl _ _) hLB (by decide) hcov rfl rfl (show 1 < 21 by decide) ?_
  · intro i hi j hj hne
    have inj : ∀ i, i < 21 → ∀ j, j < 21 → i ≠ j → rq [(1, 12), (2, 3), (3, 6), (4, 10), (5, 19), (6, 29), (7, 39), (8, 49), (9, 59), (10, 69), (11, 79), (12, 89), (13, 99), (14, 109), (15, 119), (16, 129), (17, 139), (18, 149), (19, 159), (20, 169)] i ≠ rq [(1, 12), (2, 3), (3, 6), (4, 10), (5, 19), (6, 29), (7, 39), (8, 49), (9, 59), (10, 69), (11, 79), (12, 89), (13, 99), (14, 109), (15, 119), (16, 129), (17, 139), (18, 149), (19, 159), (20, 169)] j := by decide
    exact inj i hi j hj hne
  · exact ⟨⟨rfl, by omega, by simp [SObj.sc, SV.scs, SV.sc]⟩, ⟨by rw [oren_fix (S := fun _ => False) (fun i hi => hi.elim) (o := .row 8 1 (([prm1].flatMap Prm.vals).map .v) 60) (scs_v _ _)]; rfl, by omega, scs_v _ _⟩, ⟨rfl, by omega, trivial⟩, ⟨rfl, by omega, by simp [SObj.sc, SV.scs, SV.sc]⟩, ⟨rfl, by omega, by simp [SObj.sc, SV.scs, SV.sc]⟩, ⟨rfl, by omega, by simp [SObj.sc, SV.scs, SV.sc]⟩, ⟨rfl, by omega, by simp [SObj.sc, SV.scs, SV.sc]⟩, ⟨rfl, by omega, by simp [SObj.sc, SV.scs, SV.sc]⟩, ⟨rfl, by omega, by simp [SObj.sc, SV.scs, SV.sc]⟩, ⟨rfl, by omega, by simp [SObj.sc, SV.scs, SV.sc]⟩, ⟨rfl, by omega, by simp [SObj.sc, SV.scs, SV.sc]⟩, ⟨rfl, by omega, by simp [SObj.sc, SV.scs, SV.sc]⟩, ⟨rfl, by omega, by simp [SObj.sc, SV.scs, SV.sc]⟩, ⟨rfl, by omega, by simp [SObj.sc, SV.scs, SV.sc]⟩, ⟨rfl, by omega, by simp [SObj.sc, SV.scs, SV.sc]⟩, ⟨rfl, by omega, by simp [SObj.sc, SV.scs, SV.sc]⟩, ⟨rfl, by omega, by simp [SObj.sc, SV.scs, SV.sc]⟩, ⟨rfl, by omega, by simp [SObj.sc, SV.scs, SV.sc]⟩, ⟨rfl, by omega, by simp [SObj.sc, SV.scs, SV.sc]⟩, ⟨rfl, by omega, by simp [SObj.sc, SV.scs, SV.sc]⟩, trivial⟩
end Go.Proofs.Ytnnlpdgnlccbjaa
namespace Go.Proofs.Ytnnlpdgnlccbjaa
open Go.Sx
set_option maxRecDepth 100000
set_option maxHeartbeats 4000000
/-- What the iterator over no wires looks at. -/
def fromM (ins : List Int) : List (Nat × SObj) := [(0, .kwin false []), (1, .rwin 1 ins.length (ints ins)), (2, .cells [.mp 0] 165), (3, .cells [.v (.slice none 0 0)] 27), (4, .cells [.opq 1] 27)]
def FromI (ρ0 : Env) (ins : List Int) (w : World) : Prop := ∃ ρ L, WI w L ρ (Sx.look (fromM ins)) (· < 5) w ∧ (∀ p ∈ L, p.1 = 2 ∨ p.1 = 3 ∨ p.1 = 4) ∧ Env.agree (· < 5) ρ0 ρ
theorem from_iter (ρ0 : Env) (ins : List Int) (hlen : ins.length < 4611686018427387904) : IterW Try.prog 106 [.pointer (some ⟨ρ0.s 2, 0, none⟩), .pointer (some ⟨ρ0.s 3, 0, none⟩), .pointer (some ⟨ρ0.s 4, 0, none⟩)] (FromI ρ0 ins) [] := by
  intro l J hext hI hy w hw
  have hc : ∀ w' L', Cx.ok ⟨Try.prog, tab, [], 106, Try.f106, [], w', L', none⟩ := fun w' L' => ⟨tab_ok, trivial, Try.func106, mixed, fun _ h => by cases h⟩
  obtain ⟨ρ, L, hW, hL, hag⟩ := hI 0 w hw
  have hcap : ∀ k, k < 5 → (∃ cs t, Sx.look (fromM ins) k = some (.cells cs t)) → Value.pointer (some ⟨ρ0.s k, 0, none⟩) = (SV.ptr k 0).conc ρ := by
    intro k hk ⟨cs, t, hm⟩
    have h24 := hag k hk
    have h0 : ρ.o k = 0 := (hW.mem k _ hm).2.2.1
    simp only [SV.conc, h24.1, h0]
  rw [hcap 2 (by decide) ⟨_, _, rfl⟩, hcap 3 (by decide) ⟨_, _, rfl⟩, hcap 4 (by decide) ⟨_, _, rfl⟩]
  have hargs : (#[.func (.yield l) #[] #[]] ++ [(SV.ptr 2 0).conc ρ, (SV.ptr 3 0).conc ρ, (SV.ptr 4 0).conc ρ].toArray : Array Value) = (SV.concs ρ [.v (.func (.yield l) #[] #[]), .ptr 2 0, .ptr 3 0, .ptr 4 0]).toArray := by simp [SV.concs, SV.conc]
  rw [hargs]
  have hWp := hW.addPin hag
  refine Run.calls (tab := tab) (pf := []) (cuts := []) Try.func106 rfl ρ [.v (.func (.yield l) #[] #[]), .ptr 2 0, .ptr 3 0, .ptr 4 0] _ 6 (by simp [SV.scs, SV.sc]) rfl hWp (Run.of_wpK (hc w L) 2000 _ ?_)
  conv => whnf
  refine Run.of_wpK (hc w L) 1000 _ ?_
  conv => whnf
  refine Run.trim (T' := [(5, .fn 107 [.ptr 2 0, .ptr 6 0]), (22, .opq 1), (23, ii (ins.length : Int)), (24, ii (((0 : Nat) : Nat) : Int))]) (M' := [(6, .cells [.v (.func (.yield l) #[] #[])] 193), (5, .pin (pinsOf 5 ρ0)), (0, .kwin false []), (1, .rwin 1 ins.length (ints ins)), (2, .cells [.mp 0] 165), (3, .cells [.v (.slice none 0 0)] 27), (4, .cells [.opq 1] 27)]) 7 ⟨⟨rfl, ⟨(show 2 < 7 by decide), (show 6 < 7 by decide), trivial⟩⟩, ⟨rfl, (show 1 < 7 by decide)⟩, ⟨rfl, trivial⟩, ⟨rfl, trivial⟩, trivial⟩ ⟨⟨rfl, (show 6 < 7 by decide), by simp [SObj.sc, SV.scs, SV.sc]⟩, ⟨rfl, (show 5 < 7 by decide), fun p hp => Nat.lt_of_lt_of_le ((pinsOf_covers 5 ρ0).1 p hp) (by decide)⟩, ⟨rfl, (show 0 < 7 by decide), trivial⟩, ⟨rfl, (show 1 < 7 by decide), trivial⟩, ⟨rfl, (show 2 < 7 by decide), by simp [SObj.sc, SV.scs, SV.sc]⟩, ⟨rfl, (show 3 < 7 by decide), by simp [SObj.sc, SV.scs, SV.sc]⟩, ⟨rfl, (show 4 < 7 by decide), by simp [SObj.sc, SV.scs, SV.sc]⟩, trivial⟩ (fun p hp => by rcases hL p hp with e | e | e <;> rw [e] <;> decide) ?_
  refine Run.upToJ (T := fun i => [(5, .fn 107 [.ptr 2 0, .ptr 6 0]), (22, .opq 1), (23, ii (ins.length : Int)), (24, ii ((i : Nat) : Int))]) (M := fun i => [(6, .cells [.v (.func (.yield l) #[] #[])] 193), (5, .pin (pinsOf 5 ρ0)), (0, .kwin false []), (1, .rwin 1 ins.length (ints ins)), (2, .cells [.mp 0] 165), (3, .cells [.v (.slice none 0 0)] 27), (4, .cells [.opq 1] 27)]) (fun _ => True) (ins.length) ?_ ?_ ?_
  · exact trivial
  · intro i hi hJ ih
    refine Run.of_wpK (hc w L) 1000 _ ?_
    conv => whnf
    rw [decide_eq_true (show ((i : Nat) : Int) < (ins.length : Int) by omega)]
    conv => whnf
    refine ⟨by omega, ?_⟩
    conv => whnf
    rw [opF_load1 i rfl rfl rfl rfl (by rw [idx_nat, Nat.mul_one]) (ints_get hi)]
    conv => whnf
    refine Run.callR (vs := [ii (IntKind.i64.wrap (-1 - ins[i]))]) (caps := [.ptr 1 0, .ptr 2 0]) (caps2 := [.ptr 2 0, .ptr 6 0]) (each_spec (IntKind.i64.wrap (-1 - ins[i]))) (ent _ _ Try.func107 (by kernel_rfl) rfl) rfl rfl rfl rfl rfl rfl [ii (IntKind.i64.wrap (-1 - ins[i]))] rfl (rq [(1, 2), (2, 6)]) rfl (fun i hi => by have : i = 0 ∨ i = 1 ∨ i = 2 := (by omega); rcases this with rfl | rfl | rfl <;> decide) (fun i hi j hj hne => by have inj : ∀ i, i < 3 → ∀ j, j < 3 → i ≠ j → rq [(1, 2), (2, 6)] i ≠ rq [(1, 2), (2, 6)] j := (by decide); exact inj i hi j hj hne) (by decide)
      ⟨⟨by omega, trivial, ⟨_, rfl, Conv.refl _⟩, .inl rfl, fun _ => by simp⟩, ⟨by omega, by simp [SObj.sc, SV.scs, SV.sc], ⟨_, rfl, Conv.refl _⟩, .inr (by simp), fun h => by cases h⟩, trivial⟩ (fun i hi => by simp at hi; subst hi; exact ⟨by omega, _, rfl⟩) (.v (.bool true)) [(6, .cells [.v (.func (.yield l) #[] #[])] 193), (5, .pin (pinsOf 5 ρ0)), (0, .kwin false []), (1, .rwin 1 ins.length (ints ins)), (2, .cells [.mp 0] 165), (3, .cells [.v (.slice none 0 0)] 27), (4, .cells [.opq 1] 27)] 7 rfl rfl
      ⟨.inl ⟨rfl, fun i hi => by simp at hi; subst hi; exact (show (2 : Nat) ≠ 6 by decide)⟩, .inl ⟨rfl, fun i hi => by simp at hi; subst hi; exact (show (2 : Nat) ≠ 5 by decide)⟩, .inl ⟨rfl, fun i hi => by simp at hi; subst hi; exact (show (2 : Nat) ≠ 0 by decide)⟩, .inl ⟨rfl, fun i hi => by simp at hi; subst hi; exact (show (2 : Nat) ≠ 1 by decide)⟩, .inr ⟨1, _, rfl, rfl, rfl, rfl⟩, .inl ⟨rfl, fun i hi => by simp at hi; subst hi; exact (show (2 : Nat) ≠ 3 by decide)⟩, .inl ⟨rfl, fun i hi => by simp at hi; subst hi; exact (show (2 : Nat) ≠ 4 by decide)⟩, trivial⟩ ?_
    refine Run.of_wpK (hc w L) 1000 _ ?_
    conv => whnf
    exact Run.trim (T' := [(5, .fn 107 [.ptr 2 0, .ptr 6 0]), (22, .opq 1), (23, ii (ins.length : Int)), (24, ii (((i + 1 : Nat) : Nat) : Int))]) (M' := [(6, .cells [.v (.func (.yield l) #[] #[])] 193), (5, .pin (pinsOf 5 ρ0)), (0, .kwin false []), (1, .rwin 1 ins.length (ints ins)), (2, .cells [.mp 0] 165), (3, .cells [.v (.slice none 0 0)] 27), (4, .cells [.opq 1] 27)]) 7 ⟨⟨rfl, ⟨(show 2 < 7 by decide), (show 6 < 7 by decide), trivial⟩⟩, ⟨rfl, (show 1 < 7 by decide)⟩, ⟨rfl, trivial⟩, ⟨congrArg some (congrArg ii (wrap_succ (by omega))), trivial⟩, trivial⟩ ⟨⟨rfl, (show 6 < 7 by decide), by simp [SObj.sc, SV.scs, SV.sc]⟩, ⟨rfl, (show 5 < 7 by decide), fun p hp => Nat.lt_of_lt_of_le ((pinsOf_covers 5 ρ0).1 p hp) (by decide)⟩, ⟨rfl, (show 0 < 7 by decide), trivial⟩, ⟨rfl, (show 1 < 7 by decide), trivial⟩, ⟨rfl, (show 2 < 7 by decide), by simp [SObj.sc, SV.scs, SV.sc]⟩, ⟨rfl, (show 3 < 7 by decide), by simp [SObj.sc, SV.scs, SV.sc]⟩, ⟨rfl, (show 4 < 7 by decide), by simp [SObj.sc, SV.scs, SV.sc]⟩, trivial⟩ (fun p hp => by rcases hL p hp with e | e | e <;> rw [e] <;> decide) (ih (trivial))
  · intro hJ
    refine Run.of_wpK (hc w L) 1000 _ ?_
    conv => whnf
    rw [decide_eq_false (show ¬ ((ins.length : Nat) : Int) < (ins.length : Int) by omega)]
    conv => whnf
    refine ⟨fun ρ1 w1 hW1 _ => ⟨⟨_, rfl⟩, ?_⟩⟩
    have ha1 : Env.agree (· < 5) ρ0 ρ1 := hW1.agreeOf (q := 5) rfl
    refine hext 0 w w1 hw (hW.sameExt hW1 fun p hp => ?_)
    have hag1 : Env.agree (· < 5) ρ ρ1 := hag.symm.trans ha1 fun _ h => h
    rcases hL p hp with e | e | e <;> refine ⟨_, _, by rw [e]; rfl, by rw [e]; rfl, concs_agree hag1 _ (by simp [SV.scs, SV.sc])⟩
/-- What the iterator needs, out of what is told in a tick. -/
theorem FromI.of {w0 w : World} {L : List (Nat × Nat)} {ρ : Env} {M : List (Nat × SObj)} {n : Nat} (hW : WI w0 L ρ (Sx.look M) (· < n) w) (q : Nat) (pl2 : List (Nat × Nat × Nat × (Option Addr × Nat × Nat))) (ins : List Int) (hcov : Covers q pl2) (hq : Sx.look M q = some (.pin pl2)) (hq26 : 26 ≤ q)
    (m2 : Sx.look M 2 = some (.kwin false [])) (m20 : Sx.look M 20 = some (.rwin 1 ins.length (ints ins))) (m23 : Sx.look M 23 = some (.cells [.mp 2] 165)) (m24 : Sx.look M 24 = some (.cells [.v (.slice none 0 0)] 27)) (m25 : Sx.look M 25 = some (.cells [.opq 20] 27)) : FromI ((envPl pl2).ren (rq [(0, 2), (1, 20), (2, 23), (3, 24), (4, 25)])) ins w := by
  refine ⟨ρ.ren (rq [(0, 2), (1, 20), (2, 23), (3, 24), (4, 25)]), [(2, ρ.s 23), (3, ρ.s 24), (4, ρ.s 25)], ?_, by simp, fun i hi => ?_⟩
  · refine hW.again (WI.ext_refl w) (rq [(0, 2), (1, 20), (2, 23), (3, 24), (4, 25)]) _ (fromM ins) 5 (fun p hp => ?_) (fun x hx => ?_) (fun x hx y hy h => ?_)
    · simp only [List.mem_cons, List.not_mem_nil, or_false] at hp
      rcases hp with rfl | rfl | rfl
      · exact ⟨by omega, rfl, ⟨(2, .cells [.mp 0] 165), by simp [fromM], rfl⟩, _, m23, trivial⟩
      · exact ⟨by omega, rfl, ⟨(3, .cells [.v (.slice none 0 0)] 27), by simp [fromM], rfl⟩, _, m24, trivial⟩
      · exact ⟨by omega, rfl, ⟨(4, .cells [.opq 1] 27), by simp [fromM], rfl⟩, _, m25, trivial⟩
    · simp only [fromM, List.mem_cons, List.not_mem_nil, or_false] at hx
      rcases hx with rfl | rfl | rfl | rfl | rfl
      · exact ⟨by omega, trivial, fun h => h.elim, _, m2, .inl rfl, by simp [SObj.away], fun _ p hp => by simp at hp; rcases hp with rfl | rfl | rfl <;> simp⟩
      · exact ⟨by omega, trivial, fun h => h.elim, _, m20, .inl rfl, by simp [SObj.away], fun _ p hp => by simp at hp; rcases hp with rfl | rfl | rfl <;> simp⟩
      · exact ⟨by omega, by simp [SObj.sc, SV.scs, SV.sc], fun _ => ⟨(2, ρ.s 23), by simp, rfl⟩, _, m23, .inl rfl, by simp [SObj.away], fun h => by cases h⟩
      · exact ⟨by omega, by simp [SObj.sc, SV.scs, SV.sc], fun _ => ⟨(3, ρ.s 24), by simp, rfl⟩, _, m24, .inl rfl, by simp [SObj.away], fun h => by cases h⟩
      · exact ⟨by omega, by simp [SObj.sc, SV.scs, SV.sc], fun _ => ⟨(4, ρ.s 25), by simp, rfl⟩, _, m25, .inl rfl, by simp [SObj.away], fun h => by cases h⟩
    · have key : ∀ z ∈ fromM ins, z.1 < 5 := fun z hz => by
        simp only [fromM, List.mem_cons, List.not_mem_nil, or_false] at hz
        rcases hz with rfl | rfl | rfl | rfl | rfl <;> simp
      have inj : ∀ i, i < 5 → ∀ j, j < 5 → i ≠ j → rq [(0, 2), (1, 20), (2, 23), (3, 24), (4, 25)] i ≠ rq [(0, 2), (1, 20), (2, 23), (3, 24), (4, 25)] j := by decide
      exact inj _ (key x hx) _ (key y hy) h
  · have hag := hW.envPl hcov hq
    have hi : i < 5 := hi
    have hlt : ∀ i, i < 5 → rq [(0, 2), (1, 20), (2, 23), (3, 24), (4, 25)] i < 26 := by decide
    exact hag _ (Nat.lt_of_lt_of_le (hlt i hi) hq26)
/-- What a tick of the simulation looks at. -/
def simM (inp tk : Int) : List (Nat × SObj) := [(0, .cells (simC inp tk) 170), (1, .rwin 8 1 ([prm1].flatMap Prm.vals)), (2, .kwin false []), (3, .row 2 1 [ii 0, ii 0] 139), (4, .row 1 1 [ii 0] 3), (5, .row 1 1 [ii 0] 3), (6, .row 1 1 [ii 0] 3), (7, .row 1 1 [ii 0] 3), (8, .row 1 1 [ii 0] 3), (9, .row 1 1 [ii 0] 3), (10, .row 1 1 [ii 0] 3), (11, .row 1 1 [ii 0] 3), (12, .row 1 1 [ii 0] 3), (13, .row 1 1 [ii 0] 3), (14, .row 1 1 [ii 0] 3), (15, .row 1 1 [ii 0] 3), (16, .row 1 1 [ii 0] 3), (17, .row 1 1 [ii 0] 3), (18, .row 1 1 [ii 0] 3), (19, .row 1 1 [ii 0] 3)]
theorem sim_spec (inp tk : Int) (ins : List Int) (h0 : 0 ≤ tk) (h1 : tk < 4611686018427387904) (hlen : ins.length < 4611686018427387904) : BSpec Try.prog 60 [.ptr 0 0, .opq 20] (simM inp tk ++ [(20, .rwin 1 ins.length (ints ins))]) 21 [0, 3, 4, 5, 6, 7, 8, 9, 10, 11, 12, 13, 14, 15, 16, 17, 18, 19] (.v (.slice none 0 0)) (simM inp (W (tk + 1))) 21 := by
  obtain ⟨vd, hvd⟩ : ∃ f, vld = f := ⟨_, rfl⟩
  obtain ⟨sS, hsS⟩ : ∃ f, stepS = f := ⟨_, rfl⟩
  obtain ⟨sB, hsB⟩ : ∃ f, stepB = f := ⟨_, rfl⟩
  have hpf : PF.oks Try.prog [(80, FTick vld stepS stepB)] := ⟨tick_pure, trivial⟩
  have hv1 : vd prm1 ste0 = 0 := by rw [← hvd]; decide
  have hS1 : sS prm1 ste0 0 = ste0 := by rw [← hsS]; rfl
  have hB1 : sB prm1 ste0 0 = false := by rw [← hsB]; decide
  rw [hvd, hsS, hsB] at hpf
  have hc : ∀ w L' rd, (∀ p, rd = some p → p ∈ L') → Cx.ok ⟨Try.prog, tab, [(80, FTick vd sS sB)], 60, Try.f60, [], w, L', rd⟩ := fun w L' rd h => ⟨tab_ok, hpf, Try.func60, mixed, h⟩
  refine BSpec.start (tab := tab) (pf := [(80, FTick vd sS sB)]) (cuts := []) Try.func60 rfl ⟨(show 0 < 21 by decide), (show 20 < 21 by decide), trivial⟩ rfl fun w L0 plp hL hLB hcov => Run.of_wpK (hc w L0 none (fun _ h => by cases h)) 100 _ ?_
  conv => whnf
  refine Run.callP (vs := [.ptr 0 0, ii 0]) (caps := []) (row_spec inp tk h0 h1) (ent _ _ Try.func93 (by kernel_rfl) rfl) rfl rfl rfl rfl rfl rfl rfl (by decide) (by decide)
    ⟨⟨by omega, simC_sc _ _, ⟨_, rfl, Conv.refl _⟩, .inr (by simp), fun h => by cases h⟩, trivial⟩ (fun i hi => by simp at hi; subst hi; exact ⟨by omega, _, rfl⟩) (.opq (4 + slotN tk)) [(21, .pin plp), (22, .cells [.ptr 0 0] 124), (0, .cells (simC inp tk) 170), (1, .rwin 8 1 ([prm1].flatMap Prm.vals)), (2, .kwin false []), (3, .row 2 1 [ii 0, ii 0] 139), (4, .row 1 1 [ii 0] 3), (5, .row 1 1 [ii 0] 3), (6, .row 1 1 [ii 0] 3), (7, .row 1 1 [ii 0] 3), (8, .row 1 1 [ii 0] 3), (9, .row 1 1 [ii 0] 3), (10, .row 1 1 [ii 0] 3), (11, .row 1 1 [ii 0] 3), (12, .row 1 1 [ii 0] 3), (13, .row 1 1 [ii 0] 3), (14, .row 1 1 [ii 0] 3), (15, .row 1 1 [ii 0] 3), (16, .row 1 1 [ii 0] 3), (17, .row 1 1 [ii 0] 3), (18, .row 1 1 [ii 0] 3), (19, .row 1 1 [ii 0] 3), (20, .rwin 1 ins.length (ints ins))] 23 (by show _ = SV.opq (sh 20 23 (4 + slotN tk)); rw [sh_lt (by have := slotN_lt (t := tk); omega)]) rfl
    ⟨.inl ⟨rfl, by simp⟩, .inl ⟨rfl, by simp⟩, .inr ⟨0, _, rfl, rfl, by rw [oren_fix (S := (· < 20)) (fun i hi => sh_fix i hi) (o := .cells (simC inp tk) 170) (simC_sc _ _)], rfl⟩, .inl ⟨rfl, by simp⟩, .inl ⟨rfl, by simp⟩, .inl ⟨rfl, by simp⟩, .inl ⟨rfl, by simp⟩, .inl ⟨rfl, by simp⟩, .inl ⟨rfl, by simp⟩, .inl ⟨rfl, by simp⟩, .inl ⟨rfl, by simp⟩, .inl ⟨rfl, by simp⟩, .inl ⟨rfl, by simp⟩, .inl ⟨rfl, by simp⟩, .inl ⟨rfl, by simp⟩, .inl ⟨rfl, by simp⟩, .inl ⟨rfl, by simp⟩, .inl ⟨rfl, by simp⟩, .inl ⟨rfl, by simp⟩, .inl ⟨rfl, by simp⟩, .inl ⟨rfl, by simp⟩, .inl ⟨rfl, by simp⟩, .inl ⟨rfl, by simp⟩, trivial⟩ ?_
  have hk16 := slotN_lt (t := tk)
  generalize slotN tk = k at hk16 ⊢
  rcases lt16 hk16 with rfl | rfl | rfl | rfl | rfl | rfl | rfl | rfl | rfl | rfl | rfl | rfl | rfl | rfl | rfl | rfl
  all_goals
    refine Run.of_wpK (hc w L0 none (fun _ h => by cases h)) 1000 _ ?_
    conv => whnf
    refine Run.of_wpK (hc w L0 none (fun _ h => by cases h)) 1000 _ ?_
    conv => whnf
    refine ⟨by decide, ?_⟩
    conv => whnf
    refine Run.draw (hc w L0 none (fun _ h => by cases h)) 25 ?_
    rw [show upto 0 25 = upto 0 7 ++ (upto 7 7 ++ (upto 14 3 ++ upto 17 8)) from rfl]
    simp only [drawK_app]
    conv => whnf
    refine ⟨by decide, ?_⟩
    conv => whnf
    refine ⟨by decide, ?_⟩
    conv => whnf
    rw [opF_callG (F := FTick vd sS sB) rfl rfl rfl rfl (FTick_eq vd sS sB _ prm1 ste0 0 hv1), hS1, hB1]
    conv => whnf
    refine ⟨by kernel_rfl, ?_⟩
    refine Run.of_wpK (hc w L0 none (fun _ h => by cases h)) 1000 _ ?_
    conv => whnf
    refine Run.draw (hc w L0 none (fun _ h => by cases h)) 8 ?_
    rw [show upto 0 8 = upto 0 7 ++ upto 7 1 from rfl]
    simp only [drawK_app]
    conv => whnf
    refine ⟨by decide, ?_⟩
    conv => whnf
    refine ⟨by kernel_rfl, ?_⟩
    refine Run.of_wpK (hc w L0 none (fun _ h => by cases h)) 1000 _ ?_
    conv => whnf
    refine Run.of_wpK (hc w L0 none (fun _ h => by cases h)) 1000 _ ?_
    conv => whnf
    refine Run.clear1 (hc w L0 none (fun _ h => by cases h)) rfl rfl rfl rfl rfl rfl rfl rfl rfl rfl rfl ?_
    refine Run.trim (T' := [(2, .ptr 22 0), (5, .v (.slice none 0 0)), (1, .opq 20)]) (M' := [(21, .pin plp), (22, .cells [.ptr 0 0] 124), (0, .cells (simC inp tk) 170), (1, .rwin 8 1 ([prm1].flatMap Prm.vals)), (2, .kwin false []), (3, .row 2 1 [ii 0, ii 0] 139), (4, .row 1 1 [ii 0] 3), (5, .row 1 1 [ii 0] 3), (6, .row 1 1 [ii 0] 3), (7, .row 1 1 [ii 0] 3), (8, .row 1 1 [ii 0] 3), (9, .row 1 1 [ii 0] 3), (10, .row 1 1 [ii 0] 3), (11, .row 1 1 [ii 0] 3), (12, .row 1 1 [ii 0] 3), (13, .row 1 1 [ii 0] 3), (14, .row 1 1 [ii 0] 3), (15, .row 1 1 [ii 0] 3), (16, .row 1 1 [ii 0] 3), (17, .row 1 1 [ii 0] 3), (18, .row 1 1 [ii 0] 3), (19, .row 1 1 [ii 0] 3), (20, .rwin 1 ins.length (ints ins))]) 23 ⟨⟨rfl, (show 22 < 23 by decide)⟩, ⟨rfl, trivial⟩, ⟨rfl, (show 20 < 23 by decide)⟩, trivial⟩ ⟨⟨rfl, by omega, fun p hp => Nat.lt_of_lt_of_le (hcov.1 p hp) (show 21 ≤ 23 by decide)⟩, ⟨rfl, (show 22 < 23 by decide), by simp [SObj.sc, SV.scs, SV.sc]⟩, ⟨rfl, by omega, SV.scs_lt (by decide) (simC_sc _ _)⟩, ⟨rfl, (show 1 < 23 by decide), trivial⟩, ⟨rfl, (show 2 < 23 by decide), trivial⟩, ⟨rfl, (show 3 < 23 by decide), by simp [SObj.sc, SV.scs, SV.sc]⟩, ⟨rfl, (show 4 < 23 by decide), by simp [SObj.sc, SV.scs, SV.sc]⟩, ⟨rfl, (show 5 < 23 by decide), by simp [SObj.sc, SV.scs, SV.sc]⟩, ⟨rfl, (show 6 < 23 by decide), by simp [SObj.sc, SV.scs, SV.sc]⟩, ⟨rfl, (show 7 < 23 by decide), by simp [SObj.sc, SV.scs, SV.sc]⟩, ⟨rfl, (show 8 < 23 by decide), by simp [SObj.sc, SV.scs, SV.sc]⟩, ⟨rfl, (show 9 < 23 by decide), by simp [SObj.sc, SV.scs, SV.sc]⟩, ⟨rfl, (show 10 < 23 by decide), by simp [SObj.sc, SV.scs, SV.sc]⟩, ⟨rfl, (show 11 < 23 by decide), by simp [SObj.sc, SV.scs, SV.sc]⟩, ⟨rfl, (show 12 < 23 by decide), by simp [SObj.sc, SV.scs, SV.sc]⟩, ⟨rfl, (show 13 < 23 by decide), by simp [SObj.sc, SV.scs, SV.sc]⟩, ⟨rfl, (show 14 < 23 by decide), by simp [SObj.sc, SV.scs, SV.sc]⟩, ⟨rfl, (show 15 < 23 by decide), by simp [SObj.sc, SV.scs, SV.sc]⟩, ⟨rfl, (show 16 < 23 by decide), by simp [SObj.sc, SV.scs, SV.sc]⟩, ⟨rfl, (show 17 < 23 by decide), by simp [SObj.sc, SV.scs, SV.sc]⟩, ⟨rfl, (show 18 < 23 by decide), by simp [SObj.sc, SV.scs, SV.sc]⟩, ⟨rfl, (show 19 < 23 by decide), by simp [SObj.sc, SV.scs, SV.sc]⟩, ⟨rfl, (show 20 < 23 by decide), trivial⟩, trivial⟩ (fun p hp => by have := hLB p hp; omega) ?_
    refine Run.of_wpK (hc w L0 none (fun _ h => by cases h)) 1000 _ ?_
    conv => whnf
    refine Run.callR (vs := [.mp 0, .v (.slice none 0 0), .opq 1]) (caps := []) (caps2 := []) from_spec (ent _ _ Try.func94 (by kernel_rfl) rfl) rfl rfl rfl rfl rfl rfl [.mp 2, .v (.slice none 0 0), .opq 20] rfl (rq [(0, 2), (1, 20)]) rfl (fun i hi => by have : i = 0 ∨ i = 1 := (by omega); rcases this with rfl | rfl <;> decide) (fun i hi j hj hne => by have inj : ∀ i, i < 2 → ∀ j, j < 2 → i ≠ j → rq [(0, 2), (1, 20)] i ≠ rq [(0, 2), (1, 20)] j := (by decide); exact inj i hi j hj hne) (by decide)
      trivial (fun i hi => by cases hi) (.fn 106 [.ptr 23 0, .ptr 24 0, .ptr 25 0]) [(23, .cells [.mp 2] 165), (24, .cells [.v (.slice none 0 0)] 27), (25, .cells [.opq 20] 27), (21, .pin plp), (22, .cells [.ptr 0 0] 124), (0, .cells (simC inp tk) 170), (1, .rwin 8 1 ([prm1].flatMap Prm.vals)), (2, .kwin false []), (3, .row 2 1 [ii 0, ii 0] 139), (4, .row 1 1 [ii 0] 3), (5, .row 1 1 [ii 0] 3), (6, .row 1 1 [ii 0] 3), (7, .row 1 1 [ii 0] 3), (8, .row 1 1 [ii 0] 3), (9, .row 1 1 [ii 0] 3), (10, .row 1 1 [ii 0] 3), (11, .row 1 1 [ii 0] 3), (12, .row 1 1 [ii 0] 3), (13, .row 1 1 [ii 0] 3), (14, .row 1 1 [ii 0] 3), (15, .row 1 1 [ii 0] 3), (16, .row 1 1 [ii 0] 3), (17, .row 1 1 [ii 0] 3), (18, .row 1 1 [ii 0] 3), (19, .row 1 1 [ii 0] 3), (20, .rwin 1 ins.length (ints ins))] 26 rfl rfl
      ⟨.inr ⟨2, _, rfl, rfl, rfl, rfl⟩, .inr ⟨3, _, rfl, rfl, rfl, rfl⟩, .inr ⟨4, _, rfl, rfl, rfl, rfl⟩, .inl ⟨rfl, fun i hi => by cases hi⟩, .inl ⟨rfl, fun i hi => by cases hi⟩, .inl ⟨rfl, fun i hi => by cases hi⟩, .inl ⟨rfl, fun i hi => by cases hi⟩, .inl ⟨rfl, fun i hi => by cases hi⟩, .inl ⟨rfl, fun i hi => by cases hi⟩, .inl ⟨rfl, fun i hi => by cases hi⟩, .inl ⟨rfl, fun i hi => by cases hi⟩, .inl ⟨rfl, fun i hi => by cases hi⟩, .inl ⟨rfl, fun i hi => by cases hi⟩, .inl ⟨rfl, fun i hi => by cases hi⟩, .inl ⟨rfl, fun i hi => by cases hi⟩, .inl ⟨rfl, fun i hi => by cases hi⟩, .inl ⟨rfl, fun i hi => by cases hi⟩, .inl ⟨rfl, fun i hi => by cases hi⟩, .inl ⟨rfl, fun i hi => by cases hi⟩, .inl ⟨rfl, fun i hi => by cases hi⟩, .inl ⟨rfl, fun i hi => by cases hi⟩, .inl ⟨rfl, fun i hi => by cases hi⟩, .inl ⟨rfl, fun i hi => by cases hi⟩, .inl ⟨rfl, fun i hi => by cases hi⟩, .inl ⟨rfl, fun i hi => by cases hi⟩, .inl ⟨rfl, fun i hi => by cases hi⟩, trivial⟩ ?_
    refine Run.of_wpK (hc w L0 none (fun _ h => by cases h)) 1000 _ ?_
    conv => whnf
    refine Run.pinAll fun pl2 hcov2 => ?_
    refine Run.trim (T' := [(63, .fn 106 [.ptr 23 0, .ptr 24 0, .ptr 25 0]), (2, .ptr 22 0), (5, .v (.slice none 0 0))]) (M' := [(26, .pin pl2), (23, .cells [.mp 2] 165), (24, .cells [.v (.slice none 0 0)] 27), (25, .cells [.opq 20] 27), (21, .pin plp), (22, .cells [.ptr 0 0] 124), (0, .cells (simC inp tk) 170), (1, .rwin 8 1 ([prm1].flatMap Prm.vals)), (2, .kwin false []), (3, .row 2 1 [ii 0, ii 0] 139), (4, .row 1 1 [ii 0] 3), (5, .row 1 1 [ii 0] 3), (6, .row 1 1 [ii 0] 3), (7, .row 1 1 [ii 0] 3), (8, .row 1 1 [ii 0] 3), (9, .row 1 1 [ii 0] 3), (10, .row 1 1 [ii 0] 3), (11, .row 1 1 [ii 0] 3), (12, .row 1 1 [ii 0] 3), (13, .row 1 1 [ii 0] 3), (14, .row 1 1 [ii 0] 3), (15, .row 1 1 [ii 0] 3), (16, .row 1 1 [ii 0] 3), (17, .row 1 1 [ii 0] 3), (18, .row 1 1 [ii 0] 3), (19, .row 1 1 [ii 0] 3), (20, .rwin 1 ins.length (ints ins))]) 27 ⟨⟨rfl, ⟨(show 23 < 27 by decide), (show 24 < 27 by decide), (show 25 < 27 by decide), trivial⟩⟩, ⟨rfl, (show 22 < 27 by decide)⟩, ⟨rfl, trivial⟩, trivial⟩ ⟨⟨rfl, by omega, fun p hp => Nat.lt_of_lt_of_le (hcov2.1 p hp) (show 26 ≤ 27 by decide)⟩, ⟨rfl, (show 23 < 27 by decide), by simp [SObj.sc, SV.scs, SV.sc]⟩, ⟨rfl, (show 24 < 27 by decide), by simp [SObj.sc, SV.scs, SV.sc]⟩, ⟨rfl, (show 25 < 27 by decide), by simp [SObj.sc, SV.scs, SV.sc]⟩, ⟨rfl, by omega, fun p hp => Nat.lt_of_lt_of_le (hcov.1 p hp) (show 21 ≤ 27 by decide)⟩, ⟨rfl, (show 22 < 27 by decide), by simp [SObj.sc, SV.scs, SV.sc]⟩, ⟨rfl, by omega, SV.scs_lt (by decide) (simC_sc _ _)⟩, ⟨rfl, (show 1 < 27 by decide), trivial⟩, ⟨rfl, (show 2 < 27 by decide), trivial⟩, ⟨rfl, (show 3 < 27 by decide), by simp [SObj.sc, SV.scs, SV.sc]⟩, ⟨rfl, (show 4 < 27 by decide), by simp [SObj.sc, SV.scs, SV.sc]⟩, ⟨rfl, (show 5 < 27 by decide), by simp [SObj.sc, SV.scs, SV.sc]⟩, ⟨rfl, (show 6 < 27 by decide), by simp [SObj.sc, SV.scs, SV.sc]⟩, ⟨rfl, (show 7 < 27 by decide), by simp [SObj.sc, SV.scs, SV.sc]⟩, ⟨rfl, (show 8 < 27 by decide), by simp [SObj.sc, SV.scs, SV.sc]⟩, ⟨rfl, (show 9 < 27 by decide), by simp [SObj.sc, SV.scs, SV.sc]⟩, ⟨rfl, (show 10 < 27 by decide), by simp [SObj.sc, SV.scs, SV.sc]⟩, ⟨rfl, (show 11 < 27 by decide), by simp [SObj.sc, SV.scs, SV.sc]⟩, ⟨rfl, (show 12 < 27 by decide), by simp [SObj.sc, SV.scs, SV.sc]⟩, ⟨rfl, (show 13 < 27 by decide), by simp [SObj.sc, SV.scs, SV.sc]⟩, ⟨rfl, (show 14 < 27 by decide), by simp [SObj.sc, SV.scs, SV.sc]⟩, ⟨rfl, (show 15 < 27 by decide), by simp [SObj.sc, SV.scs, SV.sc]⟩, ⟨rfl, (show 16 < 27 by decide), by simp [SObj.sc, SV.scs, SV.sc]⟩, ⟨rfl, (show 17 < 27 by decide), by simp [SObj.sc, SV.scs, SV.sc]⟩, ⟨rfl, (show 18 < 27 by decide), by simp [SObj.sc, SV.scs, SV.sc]⟩, ⟨rfl, (show 19 < 27 by decide), by simp [SObj.sc, SV.scs, SV.sc]⟩, ⟨rfl, (show 20 < 27 by decide), trivial⟩, trivial⟩ (fun p hp => by have := hLB p hp; omega) ?_
    refine Run.rangeF (T0 := [(2, .ptr 22 0), (5, .v (.slice none 0 0))]) (caps := [.ptr 23 0, .ptr 24 0, .ptr 25 0]) rfl (x := .tmp 63) rfl rfl (ent _ _ Try.func106 (by kernel_rfl) rfl) hcov2 rfl (by decide)
      (fun _ => [(26, .pin pl2), (23, .cells [.mp 2] 165), (24, .cells [.v (.slice none 0 0)] 27), (25, .cells [.opq 20] 27), (21, .pin plp), (22, .cells [.ptr 0 0] 124), (0, .cells (simC inp tk) 170), (1, .rwin 8 1 ([prm1].flatMap Prm.vals)), (2, .kwin false []), (3, .row 2 1 [ii 0, ii 0] 139), (4, .row 1 1 [ii 0] 3), (5, .row 1 1 [ii 0] 3), (6, .row 1 1 [ii 0] 3), (7, .row 1 1 [ii 0] 3), (8, .row 1 1 [ii 0] 3), (9, .row 1 1 [ii 0] 3), (10, .row 1 1 [ii 0] 3), (11, .row 1 1 [ii 0] 3), (12, .row 1 1 [ii 0] 3), (13, .row 1 1 [ii 0] 3), (14, .row 1 1 [ii 0] 3), (15, .row 1 1 [ii 0] 3), (16, .row 1 1 [ii 0] 3), (17, .row 1 1 [ii 0] 3), (18, .row 1 1 [ii 0] 3), (19, .row 1 1 [ii 0] 3), (20, .rwin 1 ins.length (ints ins))]) 29
      [] (by simp) ?_ ?_ (by decide) (fun _ => rfl) ?_ ?_ (FromI ((envPl pl2).ren (rq [(0, 2), (1, 20), (2, 23), (3, 24), (4, 25)])) ins) ?_ ?_ ?_ ?_
    · exact AllP.mem (l := [64]) ⟨Nat.le_of_ble_eq_true rfl, trivial⟩
    · intro v hv; cases hv
    · exact AllP.mem ⟨⟨rfl, (show 22 < 26 by decide)⟩, ⟨rfl, trivial⟩, trivial⟩
    · exact AllP.mem ⟨⟨rfl, by omega⟩, ⟨rfl, by omega⟩, ⟨rfl, by omega⟩, ⟨rfl, by omega⟩, ⟨rfl, by omega⟩, ⟨rfl, by omega⟩, ⟨rfl, by omega⟩, ⟨rfl, by omega⟩, ⟨rfl, by omega⟩, ⟨rfl, by omega⟩, ⟨rfl, by omega⟩, ⟨rfl, by omega⟩, ⟨rfl, by omega⟩, ⟨rfl, by omega⟩, ⟨rfl, by omega⟩, ⟨rfl, by omega⟩, ⟨rfl, by omega⟩, ⟨rfl, by omega⟩, ⟨rfl, by omega⟩, ⟨rfl, by omega⟩, ⟨rfl, by omega⟩, ⟨rfl, by omega⟩, ⟨rfl, by omega⟩, ⟨rfl, by omega⟩, ⟨rfl, by omega⟩, ⟨rfl, by omega⟩, ⟨rfl, by omega⟩, trivial⟩
    · intro ρ w1 hW1
      have hag := hW1.envPl hcov2 rfl
      have key : ∀ k, k < 26 → (∃ cs t, Sx.look ([(26, .pin pl2), (23, .cells [.mp 2] 165), (24, .cells [.v (.slice none 0 0)] 27), (25, .cells [.opq 20] 27), (21, .pin plp), (22, .cells [.ptr 0 0] 124), (0, .cells (simC inp tk) 170), (1, .rwin 8 1 ([prm1].flatMap Prm.vals)), (2, .kwin false []), (3, .row 2 1 [ii 0, ii 0] 139), (4, .row 1 1 [ii 0] 3), (5, .row 1 1 [ii 0] 3), (6, .row 1 1 [ii 0] 3), (7, .row 1 1 [ii 0] 3), (8, .row 1 1 [ii 0] 3), (9, .row 1 1 [ii 0] 3), (10, .row 1 1 [ii 0] 3), (11, .row 1 1 [ii 0] 3), (12, .row 1 1 [ii 0] 3), (13, .row 1 1 [ii 0] 3), (14, .row 1 1 [ii 0] 3), (15, .row 1 1 [ii 0] 3), (16, .row 1 1 [ii 0] 3), (17, .row 1 1 [ii 0] 3), (18, .row 1 1 [ii 0] 3), (19, .row 1 1 [ii 0] 3), (20, .rwin 1 ins.length (ints ins))] : List (Nat × SObj)) k = some (.cells cs t)) → (SV.ptr k 0).conc ρ = Value.pointer (some ⟨(envPl pl2).s k, 0, none⟩) := by
        intro k hk ⟨cs, t, hm⟩
        have ho : ρ.o k = 0 := (hW1.mem k _ hm).2.2.1
        simp only [SV.conc, ho, (hag k hk).1]
      have e : SV.concs ρ [.ptr 23 0, .ptr 24 0, .ptr 25 0] = [Value.pointer (some ⟨((envPl pl2).ren (rq [(0, 2), (1, 20), (2, 23), (3, 24), (4, 25)])).s 2, 0, none⟩), Value.pointer (some ⟨((envPl pl2).ren (rq [(0, 2), (1, 20), (2, 23), (3, 24), (4, 25)])).s 3, 0, none⟩), Value.pointer (some ⟨((envPl pl2).ren (rq [(0, 2), (1, 20), (2, 23), (3, 24), (4, 25)])).s 4, 0, none⟩)] := by
        simp only [SV.concs, key 23 (by decide) ⟨_, _, rfl⟩, key 24 (by decide) ⟨_, _, rfl⟩, key 25 (by decide) ⟨_, _, rfl⟩]
        rfl
      rw [e]
      exact from_iter _ ins hlen
    · intro i L' ρ' a d w' hwid hW'
      exact FromI.of hW' 26 pl2 ins hcov2 rfl (by decide) rfl rfl rfl rfl rfl
    · intro i v hv; simp at hv
    · intro L' a d hwid hd hLp
      have hlid : ∀ p ∈ L', p.1 < 29 := fun p hp => by
        rcases hLp p hp with h | h | h
        · omega
        · omega
        · have := hLB p h; omega
      refine Run.of_wpK (hc w L' none (fun q hq => by cases hq)) 1000 _ ?_
      conv => whnf
      refine Run.retD (hc w L' none (fun q hq => by cases hq)) rfl 27 d hd rfl (.inr ⟨_, rfl⟩) rfl ?_
      refine SpecR.introN 29 (by decide) hwid hLB (by decide) hcov rfl rfl trivial ?_
      exact ⟨⟨by rw [oren_fix (S := (· < 20)) (fun i hi => sh_fix i (by omega)) (o := .cells (simC inp (W (tk + 1))) 170) (simC_sc _ _)]; rfl, by omega, SV.scs_lt (by decide) (simC_sc _ _)⟩, ⟨rfl, by omega, trivial⟩, ⟨rfl, by omega, trivial⟩, ⟨rfl, by omega, by simp [SObj.sc, SV.scs, SV.sc]⟩, ⟨rfl, by omega, by simp [SObj.sc, SV.scs, SV.sc]⟩, ⟨rfl, by omega, by simp [SObj.sc, SV.scs, SV.sc]⟩, ⟨rfl, by omega, by simp [SObj.sc, SV.scs, SV.sc]⟩, ⟨rfl, by omega, by simp [SObj.sc, SV.scs, SV.sc]⟩, ⟨rfl, by omega, by simp [SObj.sc, SV.scs, SV.sc]⟩, ⟨rfl, by omega, by simp [SObj.sc, SV.scs, SV.sc]⟩, ⟨rfl, by omega, by simp [SObj.sc, SV.scs, SV.sc]⟩, ⟨rfl, by omega, by simp [SObj.sc, SV.scs, SV.sc]⟩, ⟨rfl, by omega, by simp [SObj.sc, SV.scs, SV.sc]⟩, ⟨rfl, by omega, by simp [SObj.sc, SV.scs, SV.sc]⟩, ⟨rfl, by omega, by simp [SObj.sc, SV.scs, SV.sc]⟩, ⟨rfl, by omega, by simp [SObj.sc, SV.scs, SV.sc]⟩, ⟨rfl, by omega, by simp [SObj.sc, SV.scs, SV.sc]⟩, ⟨rfl, by omega, by simp [SObj.sc, SV.scs, SV.sc]⟩, ⟨rfl, by omega, by simp [SObj.sc, SV.scs, SV.sc]⟩, ⟨rfl, by omega, by simp [SObj.sc, SV.scs, SV.sc]⟩, trivial⟩
end Go.Proofs.Ytnnlpdgnlccbjaa
namespace Go.Proofs.Ytnnlpdgnlccbjaa
open Go.Sx
set_option maxRecDepth 100000
set_option maxHeartbeats 8000000
/-- How many of the first events are of a tick. -/
def nAt (t : Int) : List Evt → Nat
  | [] => 0
  | x :: l => if x.tick = t then nAt t l + 1 else 0
theorem nAt_le (t : Int) : ∀ l : List Evt, nAt t l ≤ l.length
  | [] => Nat.le_refl _
  | x :: l => by
    unfold nAt
    have := nAt_le t l
    split
    · simp; omega
    · omega
theorem nAt_lt {t : Int} : ∀ {l : List Evt} {i : Nat}, i < nAt t l → ∃ h : i < l.length, l[i].tick = t
  | [], i, h => by simp [nAt] at h
  | x :: l, i, h => by
    unfold nAt at h
    split at h
    · rename_i e
      cases i with
      | zero => exact ⟨by simp, e⟩
      | succ i =>
        obtain ⟨h1, h2⟩ := nAt_lt (t := t) (l := l) (i := i) (by omega)
        exact ⟨by simpa using h1, by simpa using h2⟩
    · omega
theorem nAt_end {t : Int} : ∀ {l : List Evt} (h : nAt t l < l.length), l[nAt t l].tick ≠ t
  | [], h => by simp at h
  | x :: l, h => by
    unfold nAt at h
    split at h
    · rename_i e
      have h' : nAt t l < l.length := by simpa using h
      have := nAt_end h'
      simp only [nAt, if_pos e, List.getElem_cons_succ]
      exact this
    · rename_i e
      simp only [nAt, if_neg e, List.getElem_cons_zero]
      exact e
/-- What is left of the events behind some ticks. -/
def evR (l : List Evt) : Nat → List Evt
  | 0 => l
  | i + 1 => (evR l i).drop (nAt i (evR l i))
theorem evR_len (l : List Evt) : ∀ i, (evR l i).length ≤ l.length
  | 0 => Nat.le_refl _
  | i + 1 => by
    unfold evR
    rw [List.length_drop]
    have := evR_len l i
    omega
def idsT (l : List Evt) (j : Nat) : List Int := (l.take j).map (·.id)
theorem idsT_len {l : List Evt} {j : Nat} (h : j ≤ l.length) : (idsT l j).length = j := by simp [idsT]; omega
theorem idsT_succ {l : List Evt} {j : Nat} (h : j < l.length) : idsT l (j + 1) = idsT l j ++ [l[j].id] := by
  unfold idsT
  rw [← List.take_append_getElem h, List.map_append]; rfl
theorem drop_flat {e : Nat} {α : Type} {f : α → List Value} (hf : ∀ a, (f a).length = e) : ∀ (l : List α) (k : Nat), (l.flatMap f).drop (k * e) = (l.drop k).flatMap f
  | l, 0 => by simp
  | [], k + 1 => by simp
  | a :: l, k + 1 => by
    rw [List.flatMap_cons, List.drop_succ_cons, ← drop_flat hf l k, Nat.add_mul, Nat.one_mul, Nat.add_comm (k * e) e, ← List.drop_drop, List.drop_left' (hf a)]
theorem opF_sliceW {tab : Tab} {pf : PF} {T : Tm} {M : Mem} {n : Nat} {t : TypeId} {x : Operand} {lo : Option Operand} {ti : TI} {te : TypeId} {sz bytes b e m : Nat} {vs : List Value} (l : Nat) (ht : Sx.look tab t = some ti) (hs : ti.sh = .slc te sz bytes) (hx : ev T x = some (.opq b)) (hM : M b = some (.rwin e m vs)) (he : e = sz) (hlo : evO T lo = some (some (l : Int))) (hl : l ≤ m) :
    opF tab pf T M n (.slice t x lo none none) = some (.new (.opq n) (.rwin e (m - l) (vs.drop (l * e)))) := by
  subst he
  have hno : evO T none = some none := rfl
  simp only [opF, opSlice, ht, hs, hx, hM, hlo, hno, Nat.beq_refl]
  rw [decide_eq_true (p := 0 ≤ (l : Int) ∧ (l : Int) ≤ (m : Int)) ⟨by omega, by omega⟩]
  simp only [Int.toNat_natCast]
theorem ints_iv (l : List Int) : (l.map fun x => ii x) = (ints l).map .v := by simp [ints]
theorem nrun_run (vN : Value) (inp : Int) (vE : Value) (l : List Evt) (ticks : Int) (w : World) (hN : RowsAt w vN 8 1 ([prm1].flatMap Prm.vals)) (hE : RowsAt w vE 2 l.length (l.flatMap Evt.vals)) :
    Calls Try.prog 24 #[netV vN (.slice none 0 0) ⟨[prm1], inp, []⟩, vE, .int .i64 ticks] w fun e w' => e = .returned (.tuple #[.slice none 0 0, .int .i64 (prepChk ⟨[prm1], inp, []⟩ l ticks 10000)]) ∧ Ext w w' := by
  have hc : ∀ L' rd, (∀ p, rd = some p → p ∈ L') → Cx.ok ⟨Try.prog, tab, [], 24, Try.f24, [], w, L', rd⟩ := fun L' rd h => ⟨tab_ok, trivial, Try.func24, mixed, h⟩
  have hc2 : ∀ L' rd, (∀ p, rd = some p → p ∈ L') → Cx.ok ⟨Try.prog, tab, [(2000, fun _ _ => none)], 61, Try.f61, [], w, L', rd⟩ := fun L' rd h => ⟨tab_ok, ⟨trivial, trivial⟩, Try.func61, mixed, h⟩
  have hrows : AllP (fun x : Value × Nat × Nat × List Value => RowsAt w x.1 x.2.1 x.2.2.1 x.2.2.2) [(vN, 8, 1, [prm1].flatMap Prm.vals), (vE, 2, l.length, l.flatMap Evt.vals)] := ⟨hN, hE, trivial⟩
  refine Run.startW Try.func24 rfl _ hrows [.agg [.opq 0, ii inp, .v (.slice none 0 0)], .opq 1, ii ticks] [netV vN (.slice none 0 0) ⟨[prm1], inp, []⟩, vE, .int .i64 ticks] [(0, .rwin 8 1 ([prm1].flatMap Prm.vals)), (1, .rwin 2 l.length (l.flatMap Evt.vals))] 2 rfl rfl
    (by show [Value.agg [(SV.opq 0).conc _, .int .i64 inp, .slice none 0 0].toArray, (SV.opq 1).conc _, _] = _; rw [conc_rows hrows (k := 0) rfl, conc_rows hrows (k := 1) rfl]; rfl) (by simp [SV.scs, SV.sc]) rfl (Run.of_wpK (hc [] none (fun _ h => by cases h)) 1000 _ ?_)
  conv => whnf
  obtain ⟨ck, hck⟩ : ∃ ck, prepChk ⟨[prm1], inp, []⟩ l ticks 10000 = ck := ⟨_, rfl⟩
  have h0S : ∀ w', RowsAt w' (.slice none 0 0) 4 0 [] := fun w' => ⟨rfl, none, 0, rfl, Nat.le_refl _, .inl rfl⟩
  refine Run.callE (g := 58) (vs := [.agg [.opq 0, ii inp, .v (.slice none 0 0)], .opq 1, ii ticks, ii 10000]) (caps := []) (ii ck) (fun ρ w1 hW => by
    rw [← hck]
    exact prepared_run ((SV.opq 0).conc ρ) (.slice none 0 0) ⟨[prm1], inp, []⟩ ((SV.opq 1).conc ρ) l ticks 10000 w1 ⟨hW.rowsAt rfl, h0S w1⟩ (hW.rowsAt rfl)) (ent _ _ Try.func58 (by kernel_rfl) rfl) rfl rfl rfl rfl rfl rfl rfl trivial ?_
  refine Run.of_wpK (hc [] none (fun _ h => by cases h)) 1000 _ ?_
  conv => whnf
  cases e1 : ck != 0
  case true =>
    conv => whnf
    exact ⟨fun ρ w' hW _ => ⟨by rw [hck]; rfl, hW.toExt⟩⟩
  have e1' : ck = 0 := by simpa using e1
  conv => whnf
  have hargs : wi ticks 0 10000 = true ∧ l.length ≤ 65536 := by
    rw [e1'] at hck
    unfold prepChk at hck
    split at hck
    · rename_i h1; exact absurd hck h1
    split at hck
    · cases hck
    rename_i h2
    refine ⟨by simpa using h2, ?_⟩
    unfold evsChk at hck
    split at hck
    · cases hck
    · omega
  obtain ⟨hti, hll⟩ := hargs
  obtain ⟨ht0, ht1⟩ := wi_iff.1 hti
  obtain ⟨K, rfl⟩ : ∃ K : Nat, ticks = (K : Int) := ⟨ticks.toNat, by omega⟩
  refine Run.callP (vs := [.agg [.opq 0, ii inp, .v (.slice none 0 0)]]) (caps := []) (start_spec inp) (ent _ _ Try.func59 (by kernel_rfl) rfl) rfl rfl rfl rfl rfl rfl rfl (by decide) (by decide)
    ⟨⟨by omega, trivial, ⟨_, rfl, Conv.refl _⟩, .inl rfl, fun _ => by simp⟩, trivial⟩ (fun i hi => by cases hi) (.ptr 3 0) [(3, .cells [.opq 4, ii inp, .v (.slice none 0 0), .mp 5, ii 0, .opq 6, .opq 7, .opq 8, .opq 9, .opq 10, .opq 11, .opq 12, .opq 13, .opq 14, .opq 15, .opq 16, .opq 17, .opq 18, .opq 19, .opq 20, .opq 21, .opq 22] 170), (4, .row 8 1 (([prm1].flatMap Prm.vals).map .v) 60), (5, .kmap false true []), (6, .row 2 1 [ii 0, ii 0] 139), (7, .row 1 1 [ii 0] 3), (8, .row 1 1 [ii 0] 3), (9, .row 1 1 [ii 0] 3), (10, .row 1 1 [ii 0] 3), (11, .row 1 1 [ii 0] 3), (12, .row 1 1 [ii 0] 3), (13, .row 1 1 [ii 0] 3), (14, .row 1 1 [ii 0] 3), (15, .row 1 1 [ii 0] 3), (16, .row 1 1 [ii 0] 3), (17, .row 1 1 [ii 0] 3), (18, .row 1 1 [ii 0] 3), (19, .row 1 1 [ii 0] 3), (20, .row 1 1 [ii 0] 3), (21, .row 1 1 [ii 0] 3), (22, .row 1 1 [ii 0] 3), (2, .cells [.opq 0, ii inp, .v (.slice none 0 0)] 25), (0, .rwin 8 1 ([prm1].flatMap Prm.vals)), (1, .rwin 2 l.length (l.flatMap Evt.vals))] 23 rfl rfl
    ⟨.inr ⟨1, _, rfl, rfl, rfl, rfl⟩, .inr ⟨2, _, rfl, rfl, by simp only [SObj.ren, rens_v], rfl⟩, .inr ⟨3, _, rfl, rfl, rfl, rfl⟩, .inr ⟨4, _, rfl, rfl, rfl, rfl⟩, .inr ⟨5, _, rfl, rfl, rfl, rfl⟩, .inr ⟨6, _, rfl, rfl, rfl, rfl⟩, .inr ⟨7, _, rfl, rfl, rfl, rfl⟩, .inr ⟨8, _, rfl, rfl, rfl, rfl⟩, .inr ⟨9, _, rfl, rfl, rfl, rfl⟩, .inr ⟨10, _, rfl, rfl, rfl, rfl⟩, .inr ⟨11, _, rfl, rfl, rfl, rfl⟩, .inr ⟨12, _, rfl, rfl, rfl, rfl⟩, .inr ⟨13, _, rfl, rfl, rfl, rfl⟩, .inr ⟨14, _, rfl, rfl, rfl, rfl⟩, .inr ⟨15, _, rfl, rfl, rfl, rfl⟩, .inr ⟨16, _, rfl, rfl, rfl, rfl⟩, .inr ⟨17, _, rfl, rfl, rfl, rfl⟩, .inr ⟨18, _, rfl, rfl, rfl, rfl⟩, .inr ⟨19, _, rfl, rfl, rfl, rfl⟩, .inr ⟨20, _, rfl, rfl, rfl, rfl⟩, .inl ⟨rfl, by simp⟩, .inl ⟨rfl, by simp⟩, .inl ⟨rfl, by simp⟩, trivial⟩ ?_
  refine Run.of_wpK (hc [] none (fun _ h => by cases h)) 1000 _ ?_
  conv => whnf
  refine Run.pinAll fun plq hcovq => ?_
  have hne1 : ∀ x ∈ ([(23, .cells [.opq 25] 128), (24, .pin plq), (25, .rwin 2 (evR l 0).length ((evR l 0).flatMap Evt.vals)), (3, .cells [.opq 4, ii inp, .v (.slice none 0 0), .mp 5, ii ((0 : Nat) : Int), .opq 6, .opq 7, .opq 8, .opq 9, .opq 10, .opq 11, .opq 12, .opq 13, .opq 14, .opq 15, .opq 16, .opq 17, .opq 18, .opq 19, .opq 20, .opq 21, .opq 22] 170), (4, .row 8 1 (([prm1].flatMap Prm.vals).map .v) 60), (5, .kmap false true []), (6, .row 2 1 [ii 0, ii 0] 139), (7, .row 1 1 [ii 0] 3), (8, .row 1 1 [ii 0] 3), (9, .row 1 1 [ii 0] 3), (10, .row 1 1 [ii 0] 3), (11, .row 1 1 [ii 0] 3), (12, .row 1 1 [ii 0] 3), (13, .row 1 1 [ii 0] 3), (14, .row 1 1 [ii 0] 3), (15, .row 1 1 [ii 0] 3), (16, .row 1 1 [ii 0] 3), (17, .row 1 1 [ii 0] 3), (18, .row 1 1 [ii 0] 3), (19, .row 1 1 [ii 0] 3), (20, .row 1 1 [ii 0] 3), (21, .row 1 1 [ii 0] 3), (22, .row 1 1 [ii 0] 3)] : List (Nat × SObj)), x.1 ≠ 1 := AllP.mem ⟨(show 23 ≠ 1 by decide), (show 24 ≠ 1 by decide), (show 25 ≠ 1 by decide), (show 3 ≠ 1 by decide), (show 4 ≠ 1 by decide), (show 5 ≠ 1 by decide), (show 6 ≠ 1 by decide), (show 7 ≠ 1 by decide), (show 8 ≠ 1 by decide), (show 9 ≠ 1 by decide), (show 10 ≠ 1 by decide), (show 11 ≠ 1 by decide), (show 12 ≠ 1 by decide), (show 13 ≠ 1 by decide), (show 14 ≠ 1 by decide), (show 15 ≠ 1 by decide), (show 16 ≠ 1 by decide), (show 17 ≠ 1 by decide), (show 18 ≠ 1 by decide), (show 19 ≠ 1 by decide), (show 20 ≠ 1 by decide), (show 21 ≠ 1 by decide), (show 22 ≠ 1 by decide), trivial⟩
  have hrqe : ∀ i, rq [(25, 1)] i = if i = 25 then 1 else i := fun i => by
    unfold rq
    rw [look_cons]
    by_cases e : i = 25
    · rw [if_pos e.symm, if_pos e]
    · rw [if_neg (Ne.symm e), if_neg e]; rfl
  refine Run.less (s' := ⟨[(9, .ptr 3 0), (10, .ptr 23 0), (11, .v (.slice none 0 0)), (27, ii (K : Int)), (28, ii ((0 : Nat) : Int))], [(23, .cells [.opq 25] 128), (24, .pin plq), (25, .rwin 2 (evR l 0).length ((evR l 0).flatMap Evt.vals)), (3, .cells [.opq 4, ii inp, .v (.slice none 0 0), .mp 5, ii ((0 : Nat) : Int), .opq 6, .opq 7, .opq 8, .opq 9, .opq 10, .opq 11, .opq 12, .opq 13, .opq 14, .opq 15, .opq 16, .opq 17, .opq 18, .opq 19, .opq 20, .opq 21, .opq 22] 170), (4, .row 8 1 (([prm1].flatMap Prm.vals).map .v) 60), (5, .kmap false true []), (6, .row 2 1 [ii 0, ii 0] 139), (7, .row 1 1 [ii 0] 3), (8, .row 1 1 [ii 0] 3), (9, .row 1 1 [ii 0] 3), (10, .row 1 1 [ii 0] 3), (11, .row 1 1 [ii 0] 3), (12, .row 1 1 [ii 0] 3), (13, .row 1 1 [ii 0] 3), (14, .row 1 1 [ii 0] 3), (15, .row 1 1 [ii 0] 3), (16, .row 1 1 [ii 0] 3), (17, .row 1 1 [ii 0] 3), (18, .row 1 1 [ii 0] 3), (19, .row 1 1 [ii 0] 3), (20, .row 1 1 [ii 0] 3), (21, .row 1 1 [ii 0] 3), (22, .row 1 1 [ii 0] 3)], 26, [], _⟩) (rq [(25, 1)]) ⟨AllP.mem ⟨⟨rfl, (show 3 < 26 by decide)⟩, ⟨rfl, (show 23 < 26 by decide)⟩, ⟨rfl, trivial⟩, ⟨rfl, trivial⟩, ⟨rfl, trivial⟩, trivial⟩, AllP.mem ⟨⟨rfl, (show 23 < 26 by decide), by simp [SObj.sc, SV.scs, SV.sc]⟩, ⟨congrArg some (pin_fix hcovq (fun i hi => rq_fix (rq_noneB (B := 24) rfl hi))).symm, (show 24 < 26 by decide), fun p hp => Nat.lt_of_lt_of_le (hcovq.1 p hp) (show 24 ≤ 26 by decide)⟩, ⟨rfl, (show 25 < 26 by decide), trivial⟩, ⟨rfl, (show 3 < 26 by decide), by simp [SObj.sc, SV.scs, SV.sc]⟩, ⟨congrArg some (oren_fix (S := fun _ => False) (fun i hi => hi.elim) (o := .row 8 1 (([prm1].flatMap Prm.vals).map .v) 60) (scs_v _ _)).symm, (show 4 < 26 by decide), scs_v _ _⟩, ⟨rfl, (show 5 < 26 by decide), trivial⟩, ⟨rfl, (show 6 < 26 by decide), by simp [SObj.sc, SV.scs, SV.sc]⟩, ⟨rfl, (show 7 < 26 by decide), by simp [SObj.sc, SV.scs, SV.sc]⟩, ⟨rfl, (show 8 < 26 by decide), by simp [SObj.sc, SV.scs, SV.sc]⟩, ⟨rfl, (show 9 < 26 by decide), by simp [SObj.sc, SV.scs, SV.sc]⟩, ⟨rfl, (show 10 < 26 by decide), by simp [SObj.sc, SV.scs, SV.sc]⟩, ⟨rfl, (show 11 < 26 by decide), by simp [SObj.sc, SV.scs, SV.sc]⟩, ⟨rfl, (show 12 < 26 by decide), by simp [SObj.sc, SV.scs, SV.sc]⟩, ⟨rfl, (show 13 < 26 by decide), by simp [SObj.sc, SV.scs, SV.sc]⟩, ⟨rfl, (show 14 < 26 by decide), by simp [SObj.sc, SV.scs, SV.sc]⟩, ⟨rfl, (show 15 < 26 by decide), by simp [SObj.sc, SV.scs, SV.sc]⟩, ⟨rfl, (show 16 < 26 by decide), by simp [SObj.sc, SV.scs, SV.sc]⟩, ⟨rfl, (show 17 < 26 by decide), by simp [SObj.sc, SV.scs, SV.sc]⟩, ⟨rfl, (show 18 < 26 by decide), by simp [SObj.sc, SV.scs, SV.sc]⟩, ⟨rfl, (show 19 < 26 by decide), by simp [SObj.sc, SV.scs, SV.sc]⟩, ⟨rfl, (show 20 < 26 by decide), by simp [SObj.sc, SV.scs, SV.sc]⟩, ⟨rfl, (show 21 < 26 by decide), by simp [SObj.sc, SV.scs, SV.sc]⟩, ⟨rfl, (show 22 < 26 by decide), by simp [SObj.sc, SV.scs, SV.sc]⟩, trivial⟩, (fun x hx y hy h => ?_), (fun p hp => by cases hp), rfl, rfl⟩ ?_
  · have h1 := hne1 x hx
    have h2 := hne1 y hy
    rw [hrqe, hrqe]
    split <;> split <;> omega
  refine Run.upToJ (T := fun i => [(9, .ptr 3 0), (10, .ptr 23 0), (11, .v (.slice none 0 0)), (27, ii (K : Int)), (28, ii ((i : Nat) : Int))]) (M := fun i => [(23, .cells [.opq 25] 128), (24, .pin plq), (25, .rwin 2 (evR l i).length ((evR l i).flatMap Evt.vals)), (3, .cells [.opq 4, ii inp, .v (.slice none 0 0), .mp 5, ii ((i : Nat) : Int), .opq 6, .opq 7, .opq 8, .opq 9, .opq 10, .opq 11, .opq 12, .opq 13, .opq 14, .opq 15, .opq 16, .opq 17, .opq 18, .opq 19, .opq 20, .opq 21, .opq 22] 170), (4, .row 8 1 (([prm1].flatMap Prm.vals).map .v) 60), (5, .kmap false true []), (6, .row 2 1 [ii 0, ii 0] 139), (7, .row 1 1 [ii 0] 3), (8, .row 1 1 [ii 0] 3), (9, .row 1 1 [ii 0] 3), (10, .row 1 1 [ii 0] 3), (11, .row 1 1 [ii 0] 3), (12, .row 1 1 [ii 0] 3), (13, .row 1 1 [ii 0] 3), (14, .row 1 1 [ii 0] 3), (15, .row 1 1 [ii 0] 3), (16, .row 1 1 [ii 0] 3), (17, .row 1 1 [ii 0] 3), (18, .row 1 1 [ii 0] 3), (19, .row 1 1 [ii 0] 3), (20, .row 1 1 [ii 0] 3), (21, .row 1 1 [ii 0] 3), (22, .row 1 1 [ii 0] 3)]) (fun _ => True) K trivial ?_ ?_
  · intro i hi hJ ih
    refine Run.of_wpK (hc [] none (fun _ h => by cases h)) 1000 _ ?_
    conv => whnf
    obtain ⟨X, hX⟩ : ∃ X, evR l i = X := ⟨_, rfl⟩
    have hXl : X.length ≤ 65536 := by rw [← hX]; exact Nat.le_trans (evR_len l i) hll
    rw [hX]
    have hev : evR l (i + 1) = X.drop (nAt ((i : Nat) : Int) X) := by show (evR l i).drop (nAt i (evR l i)) = _; rw [hX]
    have hnl := nAt_le ((i : Nat) : Int) X
    rw [decide_eq_true (show ((i : Nat) : Int) < (K : Int) by omega)]
    conv => whnf
    refine Run.inlineF (T0 := [(9, .ptr 3 0), (10, .ptr 23 0), (11, .v (.slice none 0 0)), (12, ii ((i : Nat) : Int)), (27, ii (K : Int)), (28, ii ((i : Nat) : Int)), (31, .ptr 3 0)]) rfl rfl rfl rfl rfl rfl rfl (ent _ _ Try.func61 (by kernel_rfl) rfl) Try.func61 rfl rfl [] [(2000, fun _ _ => none)] hcovq rfl (fun v M' n' => v = .opq 26 ∧ M' = [(26, .row 1 (idsT X (nAt ((i : Nat) : Int) X)).length ((idsT X (nAt ((i : Nat) : Int) X)).map fun x => ii x) 3), (23, .cells [.opq 25] 128), (24, .pin plq), (25, .rwin 2 (X.drop (nAt ((i : Nat) : Int) X)).length ((X.drop (nAt ((i : Nat) : Int) X)).flatMap Evt.vals)), (3, .cells [.opq 4, ii inp, .v (.slice none 0 0), .mp 5, ii ((i : Nat) : Int), .opq 6, .opq 7, .opq 8, .opq 9, .opq 10, .opq 11, .opq 12, .opq 13, .opq 14, .opq 15, .opq 16, .opq 17, .opq 18, .opq 19, .opq 20, .opq 21, .opq 22] 170), (4, .row 8 1 (([prm1].flatMap Prm.vals).map .v) 60), (5, .kmap false true []), (6, .row 2 1 [ii 0, ii 0] 139), (7, .row 1 1 [ii 0] 3), (8, .row 1 1 [ii 0] 3), (9, .row 1 1 [ii 0] 3), (10, .row 1 1 [ii 0] 3), (11, .row 1 1 [ii 0] 3), (12, .row 1 1 [ii 0] 3), (13, .row 1 1 [ii 0] 3), (14, .row 1 1 [ii 0] 3), (15, .row 1 1 [ii 0] 3), (16, .row 1 1 [ii 0] 3), (17, .row 1 1 [ii 0] 3), (18, .row 1 1 [ii 0] 3), (19, .row 1 1 [ii 0] 3), (20, .row 1 1 [ii 0] 3), (21, .row 1 1 [ii 0] 3), (22, .row 1 1 [ii 0] 3)] ∧ n' = 27) ?_ ?_ ?_
    · exact AllP.mem ⟨⟨rfl, (show 3 < 24 by decide)⟩, ⟨rfl, (show 23 < 24 by decide)⟩, ⟨rfl, trivial⟩, ⟨rfl, trivial⟩, ⟨rfl, trivial⟩, ⟨rfl, trivial⟩, ⟨rfl, (show 3 < 24 by decide)⟩, trivial⟩
    · refine Run.of_wpK (hc2 [] none (fun _ h => by cases h)) 100 _ ?_
      conv => whnf
      refine Run.nils (T' := [(0, .ptr 23 0), (1, ii ((i : Nat) : Int)), (5, .opq 26)]) (M' := [(26, .row 1 (idsT X 0).length ((idsT X 0).map fun x => ii x) 3), (23, .cells [.opq 25] 128), (24, .pin plq), (25, .rwin 2 (X.drop 0).length ((X.drop 0).flatMap Evt.vals)), (3, .cells [.opq 4, ii inp, .v (.slice none 0 0), .mp 5, ii ((i : Nat) : Int), .opq 6, .opq 7, .opq 8, .opq 9, .opq 10, .opq 11, .opq 12, .opq 13, .opq 14, .opq 15, .opq 16, .opq 17, .opq 18, .opq 19, .opq 20, .opq 21, .opq 22] 170), (4, .row 8 1 (([prm1].flatMap Prm.vals).map .v) 60), (5, .kmap false true []), (6, .row 2 1 [ii 0, ii 0] 139), (7, .row 1 1 [ii 0] 3), (8, .row 1 1 [ii 0] 3), (9, .row 1 1 [ii 0] 3), (10, .row 1 1 [ii 0] 3), (11, .row 1 1 [ii 0] 3), (12, .row 1 1 [ii 0] 3), (13, .row 1 1 [ii 0] 3), (14, .row 1 1 [ii 0] 3), (15, .row 1 1 [ii 0] 3), (16, .row 1 1 [ii 0] 3), (17, .row 1 1 [ii 0] 3), (18, .row 1 1 [ii 0] 3), (19, .row 1 1 [ii 0] 3), (20, .row 1 1 [ii 0] 3), (21, .row 1 1 [ii 0] 3), (22, .row 1 1 [ii 0] 3)]) 1 (fun _ => .row 1 0 [] 3) (fun _ _ => .inl ⟨_, _, rfl⟩) ⟨⟨_, rfl, .inl rfl⟩, ⟨_, rfl, .inl rfl⟩, ⟨_, rfl, .inr (.inl ⟨rfl, 0, by decide, rfl⟩)⟩, trivial⟩ ⟨.inl ⟨0, by decide, rfl⟩, .inr ⟨_, rfl, .inl rfl⟩, .inr ⟨_, rfl, .inl rfl⟩, .inr ⟨_, rfl, .inl rfl⟩, .inr ⟨_, rfl, .inl rfl⟩, .inr ⟨_, rfl, .inl rfl⟩, .inr ⟨_, rfl, .inl rfl⟩, .inr ⟨_, rfl, .inl rfl⟩, .inr ⟨_, rfl, .inl rfl⟩, .inr ⟨_, rfl, .inl rfl⟩, .inr ⟨_, rfl, .inl rfl⟩, .inr ⟨_, rfl, .inl rfl⟩, .inr ⟨_, rfl, .inl rfl⟩, .inr ⟨_, rfl, .inl rfl⟩, .inr ⟨_, rfl, .inl rfl⟩, .inr ⟨_, rfl, .inl rfl⟩, .inr ⟨_, rfl, .inl rfl⟩, .inr ⟨_, rfl, .inl rfl⟩, .inr ⟨_, rfl, .inl rfl⟩, .inr ⟨_, rfl, .inl rfl⟩, .inr ⟨_, rfl, .inl rfl⟩, .inr ⟨_, rfl, .inl rfl⟩, .inr ⟨_, rfl, .inl rfl⟩, .inr ⟨_, rfl, .inl rfl⟩, trivial⟩ ?_
      refine Run.upToJ (T := fun _ => [(0, .ptr 23 0), (1, ii ((i : Nat) : Int)), (5, .opq 26)]) (M := fun j => [(26, .row 1 (idsT X j).length ((idsT X j).map fun x => ii x) 3), (23, .cells [.opq 25] 128), (24, .pin plq), (25, .rwin 2 (X.drop j).length ((X.drop j).flatMap Evt.vals)), (3, .cells [.opq 4, ii inp, .v (.slice none 0 0), .mp 5, ii ((i : Nat) : Int), .opq 6, .opq 7, .opq 8, .opq 9, .opq 10, .opq 11, .opq 12, .opq 13, .opq 14, .opq 15, .opq 16, .opq 17, .opq 18, .opq 19, .opq 20, .opq 21, .opq 22] 170), (4, .row 8 1 (([prm1].flatMap Prm.vals).map .v) 60), (5, .kmap false true []), (6, .row 2 1 [ii 0, ii 0] 139), (7, .row 1 1 [ii 0] 3), (8, .row 1 1 [ii 0] 3), (9, .row 1 1 [ii 0] 3), (10, .row 1 1 [ii 0] 3), (11, .row 1 1 [ii 0] 3), (12, .row 1 1 [ii 0] 3), (13, .row 1 1 [ii 0] 3), (14, .row 1 1 [ii 0] 3), (15, .row 1 1 [ii 0] 3), (16, .row 1 1 [ii 0] 3), (17, .row 1 1 [ii 0] 3), (18, .row 1 1 [ii 0] 3), (19, .row 1 1 [ii 0] 3), (20, .row 1 1 [ii 0] 3), (21, .row 1 1 [ii 0] 3), (22, .row 1 1 [ii 0] 3)]) (fun _ => True) ((nAt ((i : Nat) : Int) X)) trivial ?_ ?_
      · intro j hj _ ih2
        obtain ⟨hj1, hj2⟩ := nAt_lt hj
        have h0 : 0 < (X.drop j).length := by rw [List.length_drop]; omega
        have e0 : (X.drop j)[0] = X[j] := by simp
        refine Run.of_wpK (hc2 [] none (fun _ h => by cases h)) 1000 _ ?_
        conv => whnf
        rw [decide_eq_true (show (0 : Int) < ((X.drop j).length : Int) by omega)]
        conv => whnf
        refine ⟨by omega, ?_⟩
        conv => whnf
        rw [opF_loadWf (f := Evt.vals) (l := X.drop j) (c := .int .i64 (X.drop j)[0].tick) 0 0 rfl rfl rfl rfl Evt.vlen rfl h0 (by decide) rfl]
        conv => whnf
        rw [e0, hj2, show (((i : Nat) : Int) == ((i : Nat) : Int)) = true by simp]
        conv => whnf
        refine ⟨by omega, ?_⟩
        conv => whnf
        rw [opF_loadWf (f := Evt.vals) (l := X.drop j) (c := .int .i64 (X.drop j)[0].id) 0 1 rfl rfl rfl rfl Evt.vlen rfl h0 (by decide) rfl]
        conv => whnf
        rw [e0]
        conv => whnf
        have hil := idsT_len (show j ≤ X.length by omega)
        refine ⟨by omega, ?_⟩
        conv => whnf
        rw [opF_sliceW 1 rfl rfl rfl rfl rfl rfl (by omega), drop_flat Evt.vlen, List.drop_drop, show (X.drop j).length - 1 = (X.drop (j + 1)).length by simp; omega]
        conv => whnf
        refine Run.trimQ (T' := [(0, .ptr 23 0), (1, ii ((i : Nat) : Int)), (5, .opq 26)]) (M' := [(26, .row 1 (idsT X (j + 1)).length ((idsT X (j + 1)).map fun x => ii x) 3), (23, .cells [.opq 25] 128), (24, .pin plq), (25, .rwin 2 (X.drop (j + 1)).length ((X.drop (j + 1)).flatMap Evt.vals)), (3, .cells [.opq 4, ii inp, .v (.slice none 0 0), .mp 5, ii ((i : Nat) : Int), .opq 6, .opq 7, .opq 8, .opq 9, .opq 10, .opq 11, .opq 12, .opq 13, .opq 14, .opq 15, .opq 16, .opq 17, .opq 18, .opq 19, .opq 20, .opq 21, .opq 22] 170), (4, .row 8 1 (([prm1].flatMap Prm.vals).map .v) 60), (5, .kmap false true []), (6, .row 2 1 [ii 0, ii 0] 139), (7, .row 1 1 [ii 0] 3), (8, .row 1 1 [ii 0] 3), (9, .row 1 1 [ii 0] 3), (10, .row 1 1 [ii 0] 3), (11, .row 1 1 [ii 0] 3), (12, .row 1 1 [ii 0] 3), (13, .row 1 1 [ii 0] 3), (14, .row 1 1 [ii 0] 3), (15, .row 1 1 [ii 0] 3), (16, .row 1 1 [ii 0] 3), (17, .row 1 1 [ii 0] 3), (18, .row 1 1 [ii 0] 3), (19, .row 1 1 [ii 0] 3), (20, .row 1 1 [ii 0] 3), (21, .row 1 1 [ii 0] 3), (22, .row 1 1 [ii 0] 3)]) (rq [(26, 28), (28, 26), (25, 29), (29, 25)]) 27 ?_ ?_ ?_ ?_ (ih2 trivial)
        · intro i hi j hj hne he
          have inv : ∀ i, i < 27 → rq [(26, 28), (28, 26), (25, 29), (29, 25)] (rq [(26, 28), (28, 26), (25, 29), (29, 25)] i) = i := by decide
          exact hne (by rw [← inv i hi, he, inv j hj])
        · exact ⟨⟨rfl, (show 23 < 27 by decide)⟩, ⟨rfl, trivial⟩, ⟨rfl, (show 26 < 27 by decide)⟩, trivial⟩
        · exact ⟨⟨by rw [oren_fix (S := fun _ => False) (fun i hi => hi.elim) (o := .row 1 (idsT X (j + 1)).length ((idsT X (j + 1)).map fun x => ii x) 3) (scs_i _ _), idsT_succ hj1, List.length_append, List.map_append]; rfl, by omega, scs_i _ _⟩, ⟨rfl, by omega, by simp [SObj.sc, SV.scs, SV.sc]⟩, ⟨congrArg some (pin_fix hcovq (fun i hi => rq_fix (rq_noneB (B := 24) rfl hi))).symm, by omega, fun p hp => Nat.lt_of_lt_of_le (hcovq.1 p hp) (show 24 ≤ 27 by decide)⟩, ⟨rfl, by omega, trivial⟩, ⟨rfl, by omega, by simp [SObj.sc, SV.scs, SV.sc]⟩, ⟨congrArg some (oren_fix (S := fun _ => False) (fun i hi => hi.elim) (o := .row 8 1 (([prm1].flatMap Prm.vals).map .v) 60) (scs_v _ _)).symm, by omega, scs_v _ _⟩, ⟨rfl, by omega, trivial⟩, ⟨rfl, by omega, by simp [SObj.sc, SV.scs, SV.sc]⟩, ⟨rfl, by omega, by simp [SObj.sc, SV.scs, SV.sc]⟩, ⟨rfl, by omega, by simp [SObj.sc, SV.scs, SV.sc]⟩, ⟨rfl, by omega, by simp [SObj.sc, SV.scs, SV.sc]⟩, ⟨rfl, by omega, by simp [SObj.sc, SV.scs, SV.sc]⟩, ⟨rfl, by omega, by simp [SObj.sc, SV.scs, SV.sc]⟩, ⟨rfl, by omega, by simp [SObj.sc, SV.scs, SV.sc]⟩, ⟨rfl, by omega, by simp [SObj.sc, SV.scs, SV.sc]⟩, ⟨rfl, by omega, by simp [SObj.sc, SV.scs, SV.sc]⟩, ⟨rfl, by omega, by simp [SObj.sc, SV.scs, SV.sc]⟩, ⟨rfl, by omega, by simp [SObj.sc, SV.scs, SV.sc]⟩, ⟨rfl, by omega, by simp [SObj.sc, SV.scs, SV.sc]⟩, ⟨rfl, by omega, by simp [SObj.sc, SV.scs, SV.sc]⟩, ⟨rfl, by omega, by simp [SObj.sc, SV.scs, SV.sc]⟩, ⟨rfl, by omega, by simp [SObj.sc, SV.scs, SV.sc]⟩, ⟨rfl, by omega, by simp [SObj.sc, SV.scs, SV.sc]⟩, ⟨rfl, by omega, by simp [SObj.sc, SV.scs, SV.sc]⟩, trivial⟩
        · intro p hp; cases hp
      · intro _
        refine Run.of_wpK (hc2 [] none (fun _ h => by cases h)) 1000 _ ?_
        conv => whnf
        by_cases hlt : (nAt ((i : Nat) : Int) X) < X.length
        · have h0 : 0 < (X.drop (nAt ((i : Nat) : Int) X)).length := by rw [List.length_drop]; omega
          have e0 : (X.drop (nAt ((i : Nat) : Int) X))[0] = X[(nAt ((i : Nat) : Int) X)] := by simp
          have hne := nAt_end hlt
          rw [decide_eq_true (show (0 : Int) < ((X.drop (nAt ((i : Nat) : Int) X)).length : Int) by omega)]
          conv => whnf
          refine ⟨by omega, ?_⟩
          conv => whnf
          rw [opF_loadWf (f := Evt.vals) (l := X.drop (nAt ((i : Nat) : Int) X)) (c := .int .i64 (X.drop (nAt ((i : Nat) : Int) X))[0].tick) 0 0 rfl rfl rfl rfl Evt.vlen rfl h0 (by decide) rfl]
          conv => whnf
          rw [e0, show (X[(nAt ((i : Nat) : Int) X)].tick == ((i : Nat) : Int)) = false by simpa using hne]
          conv => whnf
          exact ⟨fun ρ w' hW _ => ⟨ρ, .opq 26, [(26, .row 1 (idsT X (nAt ((i : Nat) : Int) X)).length ((idsT X (nAt ((i : Nat) : Int) X)).map fun x => ii x) 3), (23, .cells [.opq 25] 128), (24, .pin plq), (25, .rwin 2 (X.drop (nAt ((i : Nat) : Int) X)).length ((X.drop (nAt ((i : Nat) : Int) X)).flatMap Evt.vals)), (3, .cells [.opq 4, ii inp, .v (.slice none 0 0), .mp 5, ii ((i : Nat) : Int), .opq 6, .opq 7, .opq 8, .opq 9, .opq 10, .opq 11, .opq 12, .opq 13, .opq 14, .opq 15, .opq 16, .opq 17, .opq 18, .opq 19, .opq 20, .opq 21, .opq 22] 170), (4, .row 8 1 (([prm1].flatMap Prm.vals).map .v) 60), (5, .kmap false true []), (6, .row 2 1 [ii 0, ii 0] 139), (7, .row 1 1 [ii 0] 3), (8, .row 1 1 [ii 0] 3), (9, .row 1 1 [ii 0] 3), (10, .row 1 1 [ii 0] 3), (11, .row 1 1 [ii 0] 3), (12, .row 1 1 [ii 0] 3), (13, .row 1 1 [ii 0] 3), (14, .row 1 1 [ii 0] 3), (15, .row 1 1 [ii 0] 3), (16, .row 1 1 [ii 0] 3), (17, .row 1 1 [ii 0] 3), (18, .row 1 1 [ii 0] 3), (19, .row 1 1 [ii 0] 3), (20, .row 1 1 [ii 0] 3), (21, .row 1 1 [ii 0] 3), (22, .row 1 1 [ii 0] 3)], 27, rfl, rfl, (show 26 < 27 by decide), hW, rfl, rfl, rfl⟩⟩
        · have h0 : (X.drop (nAt ((i : Nat) : Int) X)).length = 0 := by rw [List.length_drop]; omega
          rw [decide_eq_false (show ¬ (0 : Int) < ((X.drop (nAt ((i : Nat) : Int) X)).length : Int) by omega)]
          conv => whnf
          exact ⟨fun ρ w' hW _ => ⟨ρ, .opq 26, [(26, .row 1 (idsT X (nAt ((i : Nat) : Int) X)).length ((idsT X (nAt ((i : Nat) : Int) X)).map fun x => ii x) 3), (23, .cells [.opq 25] 128), (24, .pin plq), (25, .rwin 2 (X.drop (nAt ((i : Nat) : Int) X)).length ((X.drop (nAt ((i : Nat) : Int) X)).flatMap Evt.vals)), (3, .cells [.opq 4, ii inp, .v (.slice none 0 0), .mp 5, ii ((i : Nat) : Int), .opq 6, .opq 7, .opq 8, .opq 9, .opq 10, .opq 11, .opq 12, .opq 13, .opq 14, .opq 15, .opq 16, .opq 17, .opq 18, .opq 19, .opq 20, .opq 21, .opq 22] 170), (4, .row 8 1 (([prm1].flatMap Prm.vals).map .v) 60), (5, .kmap false true []), (6, .row 2 1 [ii 0, ii 0] 139), (7, .row 1 1 [ii 0] 3), (8, .row 1 1 [ii 0] 3), (9, .row 1 1 [ii 0] 3), (10, .row 1 1 [ii 0] 3), (11, .row 1 1 [ii 0] 3), (12, .row 1 1 [ii 0] 3), (13, .row 1 1 [ii 0] 3), (14, .row 1 1 [ii 0] 3), (15, .row 1 1 [ii 0] 3), (16, .row 1 1 [ii 0] 3), (17, .row 1 1 [ii 0] 3), (18, .row 1 1 [ii 0] 3), (19, .row 1 1 [ii 0] 3), (20, .row 1 1 [ii 0] 3), (21, .row 1 1 [ii 0] 3), (22, .row 1 1 [ii 0] 3)], 27, rfl, rfl, (show 26 < 27 by decide), hW, rfl, rfl, rfl⟩⟩

    · rintro v M' n' ⟨rfl, rfl, rfl⟩
      have hnl2 : (idsT X (nAt ((i : Nat) : Int) X)).length ≤ 65536 := by rw [idsT_len hnl]; omega
      have hisn : ∀ k : Nat, (3 + 0 ≠ k ∧ 3 + 3 ≠ k ∧ (k < 7 ∨ 22 < k)) → ∀ q ∈ ([0, 3, 4, 5, 6, 7, 8, 9, 10, 11, 12, 13, 14, 15, 16, 17, 18, 19] : List Nat), (fun q => if q = 20 then 26 else 3 + q) q ≠ k := by
        intro k hk q hq
        have hq2 : q = 0 ∨ q = 3 ∨ (4 ≤ q ∧ q ≤ 19) := by simp at hq; omega
        show (if q = 20 then 26 else 3 + q) ≠ k
        rw [if_neg (by omega)]; omega
      refine Run.of_wpK (hc [] none (fun _ h => by cases h)) 1000 _ ?_
      conv => whnf
      refine Run.callR (vs := [.ptr 0 0, .opq 20]) (caps := []) (caps2 := []) (sim_spec inp ((i : Nat) : Int) (idsT X (nAt ((i : Nat) : Int) X)) (by omega) (by omega) (by omega)) (ent _ _ Try.func60 (by kernel_rfl) rfl) rfl rfl rfl rfl rfl rfl [.ptr 3 0, .opq 26] rfl (fun q => if q = 20 then 26 else 3 + q) rfl (fun q hq => by show (if q = 20 then 26 else 3 + q) < 27; split <;> omega) (fun q hq j hj hne => by show (if q = 20 then 26 else 3 + q) ≠ (if j = 20 then 26 else 3 + j); split <;> split <;> omega) (by decide)
        ⟨⟨by omega, SV.scs_lt (by decide) (simC_sc _ _), ⟨_, rfl, Conv.refl _⟩, .inr (by simp), fun h => by cases h⟩, ⟨by omega, trivial, ⟨_, rfl, Conv.row (by decide) rfl⟩, .inl rfl, fun _ => by simp⟩, ⟨by omega, trivial, ⟨_, rfl, Conv.map⟩, .inl rfl, fun _ => by simp⟩, ⟨by omega, by simp [SObj.sc, SV.scs, SV.sc], ⟨_, rfl, Conv.refl _⟩, .inr (by simp), fun h => by cases h⟩, ⟨by omega, by simp [SObj.sc, SV.scs, SV.sc], ⟨_, rfl, Conv.refl _⟩, .inr (by simp), fun h => by cases h⟩, ⟨by omega, by simp [SObj.sc, SV.scs, SV.sc], ⟨_, rfl, Conv.refl _⟩, .inr (by simp), fun h => by cases h⟩, ⟨by omega, by simp [SObj.sc, SV.scs, SV.sc], ⟨_, rfl, Conv.refl _⟩, .inr (by simp), fun h => by cases h⟩, ⟨by omega, by simp [SObj.sc, SV.scs, SV.sc], ⟨_, rfl, Conv.refl _⟩, .inr (by simp), fun h => by cases h⟩, ⟨by omega, by simp [SObj.sc, SV.scs, SV.sc], ⟨_, rfl, Conv.refl _⟩, .inr (by simp), fun h => by cases h⟩, ⟨by omega, by simp [SObj.sc, SV.scs, SV.sc], ⟨_, rfl, Conv.refl _⟩, .inr (by simp), fun h => by cases h⟩, ⟨by omega, by simp [SObj.sc, SV.scs, SV.sc], ⟨_, rfl, Conv.refl _⟩, .inr (by simp), fun h => by cases h⟩, ⟨by omega, by simp [SObj.sc, SV.scs, SV.sc], ⟨_, rfl, Conv.refl _⟩, .inr (by simp), fun h => by cases h⟩, ⟨by omega, by simp [SObj.sc, SV.scs, SV.sc], ⟨_, rfl, Conv.refl _⟩, .inr (by simp), fun h => by cases h⟩, ⟨by omega, by simp [SObj.sc, SV.scs, SV.sc], ⟨_, rfl, Conv.refl _⟩, .inr (by simp), fun h => by cases h⟩, ⟨by omega, by simp [SObj.sc, SV.scs, SV.sc], ⟨_, rfl, Conv.refl _⟩, .inr (by simp), fun h => by cases h⟩, ⟨by omega, by simp [SObj.sc, SV.scs, SV.sc], ⟨_, rfl, Conv.refl _⟩, .inr (by simp), fun h => by cases h⟩, ⟨by omega, by simp [SObj.sc, SV.scs, SV.sc], ⟨_, rfl, Conv.refl _⟩, .inr (by simp), fun h => by cases h⟩, ⟨by omega, by simp [SObj.sc, SV.scs, SV.sc], ⟨_, rfl, Conv.refl _⟩, .inr (by simp), fun h => by cases h⟩, ⟨by omega, by simp [SObj.sc, SV.scs, SV.sc], ⟨_, rfl, Conv.refl _⟩, .inr (by simp), fun h => by cases h⟩, ⟨by omega, by simp [SObj.sc, SV.scs, SV.sc], ⟨_, rfl, Conv.refl _⟩, .inr (by simp), fun h => by cases h⟩, ⟨by omega, trivial, ⟨_, rfl, Conv.row (by decide) (ints_iv _)⟩, .inl rfl, fun _ => by simp⟩, trivial⟩ (fun q hq => by
          have hq2 : q = 0 ∨ q = 3 ∨ q = 4 ∨ q = 5 ∨ q = 6 ∨ q = 7 ∨ q = 8 ∨ q = 9 ∨ q = 10 ∨ q = 11 ∨ q = 12 ∨ q = 13 ∨ q = 14 ∨ q = 15 ∨ q = 16 ∨ q = 17 ∨ q = 18 ∨ q = 19 := by simpa using hq
          rcases hq2 with rfl | rfl | rfl | rfl | rfl | rfl | rfl | rfl | rfl | rfl | rfl | rfl | rfl | rfl | rfl | rfl | rfl | rfl <;> exact ⟨by omega, _, rfl⟩) (.v (.slice none 0 0)) [(26, .row 1 (idsT X (nAt ((i : Nat) : Int) X)).length ((idsT X (nAt ((i : Nat) : Int) X)).map fun x => ii x) 3), (23, .cells [.opq 25] 128), (24, .pin plq), (25, .rwin 2 (X.drop (nAt ((i : Nat) : Int) X)).length ((X.drop (nAt ((i : Nat) : Int) X)).flatMap Evt.vals)), (3, .cells [.opq 4, ii inp, .v (.slice none 0 0), .mp 5, ii ((i + 1 : Nat) : Int), .opq 6, .opq 7, .opq 8, .opq 9, .opq 10, .opq 11, .opq 12, .opq 13, .opq 14, .opq 15, .opq 16, .opq 17, .opq 18, .opq 19, .opq 20, .opq 21, .opq 22] 170), (4, .row 8 1 (([prm1].flatMap Prm.vals).map .v) 60), (5, .kmap false true []), (6, .row 2 1 [ii 0, ii 0] 139), (7, .row 1 1 [ii 0] 3), (8, .row 1 1 [ii 0] 3), (9, .row 1 1 [ii 0] 3), (10, .row 1 1 [ii 0] 3), (11, .row 1 1 [ii 0] 3), (12, .row 1 1 [ii 0] 3), (13, .row 1 1 [ii 0] 3), (14, .row 1 1 [ii 0] 3), (15, .row 1 1 [ii 0] 3), (16, .row 1 1 [ii 0] 3), (17, .row 1 1 [ii 0] 3), (18, .row 1 1 [ii 0] 3), (19, .row 1 1 [ii 0] 3), (20, .row 1 1 [ii 0] 3), (21, .row 1 1 [ii 0] 3), (22, .row 1 1 [ii 0] 3)] 27 rfl rfl
        ⟨.inl ⟨rfl, hisn 26 (by decide)⟩, .inl ⟨rfl, hisn 23 (by decide)⟩, .inl ⟨rfl, hisn 24 (by decide)⟩, .inl ⟨rfl, hisn 25 (by decide)⟩, .inr ⟨0, _, rfl, rfl, by rw [show W (((i : Nat) : Int) + 1) = ((i + 1 : Nat) : Int) from wrap_succ (by omega)]; rfl, rfl⟩, .inl ⟨rfl, hisn 4 (by decide)⟩, .inl ⟨rfl, hisn 5 (by decide)⟩, .inr ⟨3, _, rfl, rfl, rfl, rfl⟩, .inr ⟨4, _, rfl, rfl, rfl, rfl⟩, .inr ⟨5, _, rfl, rfl, rfl, rfl⟩, .inr ⟨6, _, rfl, rfl, rfl, rfl⟩, .inr ⟨7, _, rfl, rfl, rfl, rfl⟩, .inr ⟨8, _, rfl, rfl, rfl, rfl⟩, .inr ⟨9, _, rfl, rfl, rfl, rfl⟩, .inr ⟨10, _, rfl, rfl, rfl, rfl⟩, .inr ⟨11, _, rfl, rfl, rfl, rfl⟩, .inr ⟨12, _, rfl, rfl, rfl, rfl⟩, .inr ⟨13, _, rfl, rfl, rfl, rfl⟩, .inr ⟨14, _, rfl, rfl, rfl, rfl⟩, .inr ⟨15, _, rfl, rfl, rfl, rfl⟩, .inr ⟨16, _, rfl, rfl, rfl, rfl⟩, .inr ⟨17, _, rfl, rfl, rfl, rfl⟩, .inr ⟨18, _, rfl, rfl, rfl, rfl⟩, .inr ⟨19, _, rfl, rfl, rfl, rfl⟩, trivial⟩ ?_
      refine Run.of_wpK (hc [] none (fun _ h => by cases h)) 1000 _ ?_
      conv => whnf
      refine Run.of_wpK (hc [] none (fun _ h => by cases h)) 1000 _ ?_
      conv => whnf
      refine Run.trim (T' := [(9, .ptr 3 0), (10, .ptr 23 0), (11, .v (.slice none 0 0)), (27, ii (K : Int)), (28, ii ((i + 1 : Nat) : Int))]) (M' := [(23, .cells [.opq 25] 128), (24, .pin plq), (25, .rwin 2 (evR l (i + 1)).length ((evR l (i + 1)).flatMap Evt.vals)), (3, .cells [.opq 4, ii inp, .v (.slice none 0 0), .mp 5, ii ((i + 1 : Nat) : Int), .opq 6, .opq 7, .opq 8, .opq 9, .opq 10, .opq 11, .opq 12, .opq 13, .opq 14, .opq 15, .opq 16, .opq 17, .opq 18, .opq 19, .opq 20, .opq 21, .opq 22] 170), (4, .row 8 1 (([prm1].flatMap Prm.vals).map .v) 60), (5, .kmap false true []), (6, .row 2 1 [ii 0, ii 0] 139), (7, .row 1 1 [ii 0] 3), (8, .row 1 1 [ii 0] 3), (9, .row 1 1 [ii 0] 3), (10, .row 1 1 [ii 0] 3), (11, .row 1 1 [ii 0] 3), (12, .row 1 1 [ii 0] 3), (13, .row 1 1 [ii 0] 3), (14, .row 1 1 [ii 0] 3), (15, .row 1 1 [ii 0] 3), (16, .row 1 1 [ii 0] 3), (17, .row 1 1 [ii 0] 3), (18, .row 1 1 [ii 0] 3), (19, .row 1 1 [ii 0] 3), (20, .row 1 1 [ii 0] 3), (21, .row 1 1 [ii 0] 3), (22, .row 1 1 [ii 0] 3)]) 26 ?_ ?_ (fun p hp => by cases hp) (ih trivial)
      · exact ⟨⟨rfl, (show 3 < 26 by decide)⟩, ⟨rfl, (show 23 < 26 by decide)⟩, ⟨rfl, trivial⟩, ⟨rfl, trivial⟩, ⟨congrArg some (congrArg ii (wrap_succ (by omega))), trivial⟩, trivial⟩
      · exact ⟨⟨rfl, by omega, by simp [SObj.sc, SV.scs, SV.sc]⟩, ⟨rfl, by omega, fun p hp => Nat.lt_of_lt_of_le (hcovq.1 p hp) (show 24 ≤ 26 by decide)⟩, ⟨by rw [hev]; rfl, by omega, trivial⟩, ⟨rfl, by omega, by simp [SObj.sc, SV.scs, SV.sc]⟩, ⟨rfl, by omega, scs_v _ _⟩, ⟨rfl, by omega, trivial⟩, ⟨rfl, by omega, by simp [SObj.sc, SV.scs, SV.sc]⟩, ⟨rfl, by omega, by simp [SObj.sc, SV.scs, SV.sc]⟩, ⟨rfl, by omega, by simp [SObj.sc, SV.scs, SV.sc]⟩, ⟨rfl, by omega, by simp [SObj.sc, SV.scs, SV.sc]⟩, ⟨rfl, by omega, by simp [SObj.sc, SV.scs, SV.sc]⟩, ⟨rfl, by omega, by simp [SObj.sc, SV.scs, SV.sc]⟩, ⟨rfl, by omega, by simp [SObj.sc, SV.scs, SV.sc]⟩, ⟨rfl, by omega, by simp [SObj.sc, SV.scs, SV.sc]⟩, ⟨rfl, by omega, by simp [SObj.sc, SV.scs, SV.sc]⟩, ⟨rfl, by omega, by simp [SObj.sc, SV.scs, SV.sc]⟩, ⟨rfl, by omega, by simp [SObj.sc, SV.scs, SV.sc]⟩, ⟨rfl, by omega, by simp [SObj.sc, SV.scs, SV.sc]⟩, ⟨rfl, by omega, by simp [SObj.sc, SV.scs, SV.sc]⟩, ⟨rfl, by omega, by simp [SObj.sc, SV.scs, SV.sc]⟩, ⟨rfl, by omega, by simp [SObj.sc, SV.scs, SV.sc]⟩, ⟨rfl, by omega, by simp [SObj.sc, SV.scs, SV.sc]⟩, ⟨rfl, by omega, by simp [SObj.sc, SV.scs, SV.sc]⟩, trivial⟩

  · intro _
    refine Run.of_wpK (hc [] none (fun _ h => by cases h)) 1000 _ ?_
    conv => whnf
    rw [decide_eq_false (show ¬ ((K : Nat) : Int) < (K : Int) by omega)]
    conv => whnf
    exact ⟨fun ρ w' hW _ => ⟨by rw [hck, e1']; rfl, hW.toExt⟩⟩
end Go.Proofs.Ytnnlpdgnlccbjaa
namespace Go.Sx
/-- A map that was told to be one, told as one that may be nil. -/
def WeakO (o o' : SObj) : Prop := o' = o ∨ ∃ pk l, o = .kmap pk true l ∧ o' = .kmap pk false l
theorem Run.weak {c : Cx} {T : List (Nat × SV)} {M M' : List (Nat × SObj)} {n : Nat} {D : List Deferred} {todo : List Item} {R : Ending → World → Prop} (hM : AllP (fun x => ∃ o, look M x.1 = some o ∧ WeakO o x.2) M') (h : Run c ⟨T, M', n, D, todo⟩ R) : Run c ⟨T, M, n, D, todo⟩ R := by
  refine ⟨fun ρ a w hi => h.go ρ a w ⟨hi.sz, hi.tm, hi.df, ⟨?_, ?_, ?_, hi.wi.lid, hi.wi.keep, hi.wi.size, hi.wi.os, hi.wi.tape, hi.wi.output⟩⟩⟩
  · intro i o hi'
    obtain ⟨o0, h1, h2⟩ := hM.mem _ (look_mem hi')
    obtain ⟨g1, g2, g3⟩ := hi.wi.mem i o0 h1
    rcases h2 with h2 | ⟨pk, l, rfl, h2⟩
    · simp only at h2; subst h2; exact ⟨g1, g2, g3⟩
    · simp only at h2; subst h2
      refine ⟨g1, trivial, g3.1, ?_⟩
      rcases g3.2 with g | ⟨g, _⟩
      · exact .inl g
      · cases g
  · intro i j oi oj hi' hj' hne ho ho'
    obtain ⟨o1, h1, h2⟩ := hM.mem _ (look_mem hi')
    obtain ⟨o2, h3, h4⟩ := hM.mem _ (look_mem hj')
    refine hi.wi.dist i j o1 o2 h1 h3 hne ?_ ?_
    · rcases h2 with h2 | ⟨pk, l, rfl, h2⟩ <;> simp only at h2 <;> subst h2 <;> exact ho
    · rcases h4 with h4 | ⟨pk, l, rfl, h4⟩ <;> simp only at h4 <;> subst h4 <;> exact ho'
  · intro i o hi' ho
    obtain ⟨o1, h1, h2⟩ := hM.mem _ (look_mem hi')
    refine hi.wi.new i o1 h1 ?_
    rcases h2 with h2 | ⟨pk, l, rfl, h2⟩ <;> simp only at h2 <;> subst h2 <;> exact ho
end Go.Sx
namespace Go.Proofs.Ytnnlpdgnlccbjaa
open Go.Sx
set_option maxRecDepth 100000
set_option maxHeartbeats 4000000
def nPz (t : Int) : List Prz → Nat
  | [] => 0
  | x :: l => if x.tick = t then nPz t l + 1 else 0
theorem nPz_le (t : Int) : ∀ l : List Prz, nPz t l ≤ l.length
  | [] => Nat.le_refl _
  | x :: l => by
    unfold nPz
    have := nPz_le t l
    split
    · simp; omega
    · omega
theorem nPz_lt {t : Int} : ∀ {l : List Prz} {i : Nat}, i < nPz t l → ∃ h : i < l.length, l[i].tick = t
  | [], i, h => by simp [nPz] at h
  | x :: l, i, h => by
    unfold nPz at h
    split at h
    · rename_i e
      cases i with
      | zero => exact ⟨by simp, e⟩
      | succ i =>
        obtain ⟨h1, h2⟩ := nPz_lt (t := t) (l := l) (i := i) (by omega)
        exact ⟨by simpa using h1, by simpa using h2⟩
    · omega
theorem nPz_end {t : Int} : ∀ {l : List Prz} (h : nPz t l < l.length), l[nPz t l].tick ≠ t
  | [], h => by simp at h
  | x :: l, h => by
    unfold nPz at h
    split at h
    · rename_i e
      have h' : nPz t l < l.length := by simpa using h
      have := nPz_end h'
      simp only [nPz, if_pos e, List.getElem_cons_succ]
      exact this
    · rename_i e
      simp only [nPz, if_neg e, List.getElem_cons_zero]
      exact e
def pzR (l : List Prz) : Nat → List Prz
  | 0 => l
  | i + 1 => (pzR l i).drop (nPz i (pzR l i))
theorem pzR_len (l : List Prz) : ∀ i, (pzR l i).length ≤ l.length
  | 0 => Nat.le_refl _
  | i + 1 => by
    unfold pzR
    rw [List.length_drop]
    have := pzR_len l i
    omega
theorem pzR_mem (l : List Prz) : ∀ i x, x ∈ pzR l i → x ∈ l
  | 0, _, h => h
  | i + 1, x, h => pzR_mem l i x (List.mem_of_mem_drop h)
/-- The rewards of a tick, behind some prizes. -/
def rwSt (r : List Int) (x : Prz) : List Int := r.set x.id.toNat x.val
def rwY (R : Nat) (l : List Prz) (j : Nat) : List Int := (l.take j).foldl rwSt (List.replicate R 0)
theorem rwY_succ {R : Nat} {l : List Prz} {j : Nat} (h : j < l.length) : rwY R l (j + 1) = (rwY R l j).set l[j].id.toNat l[j].val := by
  unfold rwY
  rw [← List.take_append_getElem h, List.foldl_append]; rfl
theorem rwY_len (R : Nat) (l : List Prz) (j : Nat) : (rwY R l j).length = R := by
  unfold rwY
  have : ∀ (l : List Prz) (r : List Int), (l.foldl rwSt r).length = r.length := by
    intro l
    induction l with
    | nil => intro r; rfl
    | cons a l ih => intro r; rw [List.foldl_cons, ih]; simp [rwSt]
  rw [this, List.length_replicate]
theorem pzs_rule {rules : Int} {l : List Prz} (h : pzsChk rules l = 0) (h0 : 0 ≤ rules ∧ rules ≤ 16) : ∀ x ∈ l, 0 ≤ x.id ∧ x.id < rules ∧ -128 ≤ x.val ∧ x.val ≤ 127 := by
  intro x hx
  unfold pzsChk at h
  split at h
  · cases h
  obtain ⟨i, hi, rfl⟩ := List.getElem_of_mem hx
  have := firstE_zero h i (by simpa using hi)
  simp only [List.getElem_range] at this
  unfold pzAt at this
  have e : l.getD i prz0 = l[i] := by simp [List.getD_eq_getElem?_getD, hi]
  rw [e] at this
  split at this
  · cases this
  rename_i hw
  simp only [Bool.not_eq_false, Bool.and_eq_true, wi_iff] at hw
  have e2 : W (rules - 1) = rules - 1 := W_id (by omega) (by omega)
  rw [e2] at hw
  omega
/-- The learner behind some ticks. -/
def trIn (l : List Evt) (i : Nat) : List Int := idsT (evR l i) (nAt i (evR l i))
def trRw (R : Nat) (p : List Prz) (i : Nat) : List Int := rwY R (pzR p i) (nPz i (pzR p i))
def trS (x : Lnt) (l : List Evt) (p : List Prz) : Nat → Lst
  | 0 => x.new
  | i + 1 => lN x (trS x l p i) (trIn l i) (trRw x.rs.length p i)
/-- The spikes behind some ticks. -/
def spk (t : Int) (o : List Int) : List Evt := o.map fun a => ⟨t, a⟩
def trO (x : Lnt) (l : List Evt) (p : List Prz) : Nat → List Evt
  | 0 => []
  | i + 1 => trO x l p i ++ spk i (lOut x (trS x l p i))
theorem trS_tick (x : Lnt) (l : List Evt) (p : List Prz) : ∀ i, i ≤ 10000 → (trS x l p i).tick = (i : Int)
  | 0, _ => rfl
  | i + 1, h => by
    show W ((trS x l p i).tick + 1) = _
    rw [trS_tick x l p i (by omega), W_id (by omega) (by omega)]; rfl
theorem trS_inv {x : Lnt} (hx : NetOK x) (l : List Evt) (p : List Prz) : ∀ i, i ≤ 10000 → LInv x (trS x l p i)
  | 0, _ => LInv.start hx
  | i + 1, h => (trS_inv hx l p i (by omega)).next hx (by rw [trS_tick x l p i (by omega)]; omega) _ _
theorem lOut_len (x : Lnt) (s : Lst) : (lOut x s).length ≤ x.n.N.length := nY_out ..
theorem trO_len (x : Lnt) (l : List Evt) (p : List Prz) : ∀ i, (trO x l p i).length ≤ i * x.n.N.length
  | 0 => by simp [trO]
  | i + 1 => by
    have h1 := trO_len x l p i
    have h2 := lOut_len x (trS x l p i)
    simp only [trO, spk, List.length_append, List.length_map]
    rw [Nat.add_mul]; omega
theorem spk_take {t : Int} {o : List Int} {j : Nat} (h : j < o.length) : spk t (o.take (j + 1)) = spk t (o.take j) ++ [⟨t, o[j]⟩] := by
  unfold spk
  rw [← List.take_append_getElem h, List.map_append]; rfl
theorem evts_v (l : List Evt) : l.flatMap Evt.cells = (l.flatMap Evt.vals).map .v := by
  induction l with
  | nil => rfl
  | cons a l ih => rw [List.flatMap_cons, List.flatMap_cons, List.map_append, ih]; rfl
theorem scs_evts (S : Nat → Prop) (l : List Evt) : SV.scs S (l.flatMap Evt.cells) := by rw [evts_v]; exact scs_v _ _
end Go.Proofs.Ytnnlpdgnlccbjaa
