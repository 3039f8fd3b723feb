/-
  Laws of the executor, and walks of functions (part 9). The conditions stand with each law.
-/
import Derived.Laws.IdiomRangeMap
import Derived.Test.YthaigkamfnjfbaaMtsh
namespace Go.Sx
section
variable {c : Cx} {T : List (Nat × SV)} {M : List (Nat × SObj)} {n : Nat} {D : List Deferred} {ops : Array Oper} {i : Nat} {r : List Nat} {k : List Item} {R : Ending → World → Prop} {o : Oper}
end
end Go.Sx
namespace Go.Sx
section
variable {c : Cx} {T : List (Nat × SV)} {n : Nat} {D : List Deferred} {todo : List Item} {R : Ending → World → Prop}
theorem Run.trimQ {T' : List (Nat × SV)} {M M' : List (Nat × SObj)} (r : Nat → Nat) (n' : Nat) (hinj : ∀ i, i < n' → ∀ j, j < n' → i ≠ j → r i ≠ r j) (hT : AllP (fun x => look T x.1 = some (x.2.ren r) ∧ x.2.sc (· < n')) T')
    (hM : AllP (fun x => look M (r x.1) = some (x.2.ren r) ∧ x.1 < n' ∧ x.2.sc (· < n')) M') (hL : ∀ p ∈ c.L, r p.1 = p.1 ∧ p.1 < n') (h : Run c ⟨T', M', n', D, todo⟩ R) : Run c ⟨T, M, n, D, todo⟩ R :=
  Run.less (s' := ⟨T', M', n', D, todo⟩) r ⟨hT.mem, hM.mem, fun x hx y hy h => hinj _ (hM.mem x hx).2.1 _ (hM.mem y hy).2.1 h, hL, rfl, rfl⟩ h
end
/-- Numbers told under others. -/
def rq (l : List (Nat × Nat)) (i : Nat) : Nat :=
  match look l i with
  | some j => j
  | none => i
theorem rq_fix {l : List (Nat × Nat)} {i : Nat} (h : look l i = none) : rq l i = i := by unfold rq; rw [h]
theorem pin_fix {q : Nat} {pl : List (Nat × Nat × Nat × (Option Addr × Nat × Nat))} {r : Nat → Nat} (hc : Covers q pl) (h : ∀ i, i < q → r i = i) : (SObj.pin pl).ren r = .pin pl := by
  simp only [SObj.ren]
  congr 1
  have : pl.map (fun p => (r p.1, p.2)) = pl.map id := List.map_congr_left fun p hp => by simp [h _ (hc.1 p hp)]
  rw [this, List.map_id]
end Go.Sx
namespace Go.Proofs.Ythaigkamfnjfbaa
open Go.Sx
set_option maxRecDepth 100000
set_option maxHeartbeats 4000000
theorem _root_.Go.Sx.oren_fix {S : Nat → Prop} {r : Nat → Nat} (h : ∀ i, S i → r i = i) {o : SObj} (ho : o.sc S) : o.ren r = o := by
  cases o with
  | cells cs t => simp only [SObj.ren]; rw [rens_fix h cs ho]
  | row e n xs t => simp only [SObj.ren]; rw [rens_fix h xs ho]
  | mid pre post cs t => simp only [SObj.ren]; rw [rens_fix h cs ho]
  | pin l =>
    simp only [SObj.ren]
    congr 1
    have : l.map (fun p => (r p.1, p.2)) = l.map id := List.map_congr_left fun p hp => by simp [h _ (ho p hp)]
    rw [this, List.map_id]
  | _ => rfl
def FTick_v (vd : Prm → Ste → Int) (sS : Prm → Ste → Int → Ste) (sB : Prm → Ste → Int → Bool) : List SV → Option SV
  | [x, y, .v (.int .i64 a)] => match prmOf x.cells with
    | some p => match steOf y.cells with
      | some s => match decide (vd p s = 0) with
        | true => some (.tup [.agg [ii (sS p s a).v, ii (sS p s a).rest], .v (.bool (sB p s a)), ii 0])
        | false => none
      | none => none
    | none => none
  | _ => none
abbrev FTick (vd : Prm → Ste → Int) (sS : Prm → Ste → Int → Ste) (sB : Prm → Ste → Int → Bool) : Mem → List SV → Option (List Nat × SV) := plainF (FTick_v vd sS sB)
theorem tick_pure : Pure Try.prog 55 (FTick vld stepS stepB) := PureV.lift {
  ent := ent _ _ Try.func55 (by kernel_rfl) rfl
  sc := fun S args v hv _ => by
    unfold FTick_v at hv
    split at hv
    · split at hv
      · split at hv
        · split at hv
          · obtain rfl := Option.some.inj hv; simp [SV.sc, SV.scs]
          · cases hv
        · cases hv
      · cases hv
    · cases hv
  run := fun ρ args v w hv => by
    unfold FTick_v at hv
    split at hv
    · split at hv
      · rename_i ax _ p hp
        split at hv
        · rename_i s hs
          split at hv
          · rename_i hd
            obtain rfl := Option.some.inj hv
            have := Tick_run p s ax w
            simp only [tickV, if_pos (of_decide_eq_true hd)] at this
            simp only [SV.concs, prm_conc ρ hp, ste_conc ρ hs]
            exact this
          · cases hv
        · cases hv
      · cases hv
    · cases hv }
theorem opF_callG {tab : Tab} {pf : PF} {T : Tm} {M : Mem} {n : Nat} {f : Operand} {args : Array Operand} {ts : Array TypeId} {fv : SV} {g : FuncId} {caps vs : List SV} {F : Mem → List SV → Option (List Nat × SV)} {bs : List Nat} {v : SV} (hf : ev T f = some fv) (hfv : calleeOf fv = some (g, caps)) (hg : Sx.look pf g = some F) (hvs : evs T args.toList = some vs) (hF : F M (vs ++ caps) = some (bs, v)) (hgb : Nat.blt g 1000 = true := by rfl) :
    opF tab pf T M n (.call { callee := .value f, args := args, argTypes := ts }) = some (.call g (vs ++ caps) bs v) := by
  simp only [opF, opCall, hf, hfv, hgb, hg, hvs, hF]
theorem FTick_eq (vd : Prm → Ste → Int) (sS : Prm → Ste → Int → Ste) (sB : Prm → Ste → Int → Bool) (M : Mem) (p : Prm) (s : Ste) (a : Int) (h : vd p s = 0) : FTick vd sS sB M [.agg p.cells, .agg s.cells, ii a] = some ([], .tup [.agg [ii (sS p s a).v, ii (sS p s a).rest], .v (.bool (sB p s a)), ii 0]) := by
  show plainF (FTick_v vd sS sB) M _ = _
  have e : FTick_v vd sS sB [.agg p.cells, .agg s.cells, ii a] = some (.tup [.agg [ii (sS p s a).v, ii (sS p s a).rest], .v (.bool (sB p s a)), ii 0]) := by
    show (match decide (vd p s = 0) with | true => _ | false => _) = _
    rw [decide_eq_true h]
  simp only [plainF, e]
set_option maxHeartbeats 8000000
def addS (l : List Int) (a : Int) : List Int := if a ∈ l then l else l ++ [a]
def slotN (t : Int) : Nat := (t.tmod 16).toNat
theorem slotN_lt {t : Int} : slotN t < 16 := by unfold slotN; have := Int.tmod_lt_of_pos t (show (0 : Int) < 16 by decide); omega
theorem slotN_eq {t : Int} (h : 0 ≤ t) : t.tmod 16 = (slotN t : Int) := by unfold slotN; have := Int.tmod_nonneg 16 h; omega
theorem lt16 {k : Nat} (h : k < 16) : k = 0 ∨ k = 1 ∨ k = 2 ∨ k = 3 ∨ k = 4 ∨ k = 5 ∨ k = 6 ∨ k = 7 ∨ k = 8 ∨ k = 9 ∨ k = 10 ∨ k = 11 ∨ k = 12 ∨ k = 13 ∨ k = 14 ∨ k = 15 := by omega
theorem opF_loadC {tab : Tab} {pf : PF} {T : Tm} {M : Mem} {n : Nat} {t : TypeId} {x : Operand} {ti : TI} {i off : Nat} {te : TypeId} {cs : List SV} {c : SV} (ht : Sx.look tab t = some ti) (hx : ev T x = some (.ptr i off)) (hM : M i = some (.cells cs te)) (hag : ti.sh.isAgg = false) (hg : get cs off = some c) :
    opF tab pf T M n (.load t x) = some (.val none c) := by
  simp only [opF, opLoad, ht, hx, hM, hag, SObj.list, hg]
def prm0 : Prm := ⟨0, 0, 0, 0, 0, 0, 0, 0⟩
def ste0 : Ste := ⟨0, 0⟩
theorem range_fold {α : Type} (f : α → Nat → α) (a : α) (j : Nat) : (List.range (j + 1)).foldl f a = f ((List.range j).foldl f a) j := by rw [List.range_succ, List.foldl_append]; rfl
/-- The states, the neurons with a spike, and what is sent, behind a neuron. -/
def nStep (N : List Prm) (sums : List Int) (x : List Ste × List Int × List Int) (i : Nat) : List Ste × List Int × List Int :=
  let p := N.getD i prm0; let s := x.1.getD i ste0; let a := sums.getD i 0
  (x.1.set i (stepS p s a), if stepB p s a = true then (x.2.1 ++ [(i : Int)], addS x.2.2 i) else x.2)
def nY (N : List Prm) (sums : List Int) (st : List Ste) (j : Nat) : List Ste × List Int × List Int := (List.range j).foldl (nStep N sums) (st, [], [])
def nL (N : List Prm) (sums : List Int) (st : List Ste) : List Ste × List Int × List Int := nY N sums st N.length
theorem nY_succ (N : List Prm) (sums : List Int) (st : List Ste) (j : Nat) : nY N sums st (j + 1) = nStep N sums (nY N sums st j) j := range_fold ..
theorem nY_len (N : List Prm) (sums : List Int) (st : List Ste) : ∀ j, (nY N sums st j).1.length = st.length
  | 0 => rfl
  | j + 1 => by
    rw [nY_succ]
    have := nY_len N sums st j
    simp [nStep, this]
/-- The neurons behind i are as they were. -/
theorem nY_ge (N : List Prm) (sums : List Int) (st : List Ste) (k : Nat) : ∀ j, j ≤ k → (nY N sums st j).1[k]? = st[k]?
  | 0, _ => rfl
  | j + 1, h => by
    rw [nY_succ]
    simp only [nStep]
    rw [List.getElem?_set_ne (by omega)]
    exact nY_ge N sums st k j (by omega)
theorem nY_out (N : List Prm) (sums : List Int) (st : List Ste) : ∀ j, (nY N sums st j).2.1.length ≤ j
  | 0 => Nat.le_refl _
  | j + 1 => by
    rw [nY_succ]
    have := nY_out N sums st j
    simp only [nStep]
    split
    · simp; omega
    · omega
theorem rq_noneB {B : Nat} : ∀ {l : List (Nat × Nat)} {i : Nat}, l.all (fun p => Nat.ble B p.1) = true → i < B → Sx.look l i = none
  | [], _, _, _ => rfl
  | (a, b) :: l, i, h, hi => by
    simp only [List.all_cons, Bool.and_eq_true] at h
    have := Nat.le_of_ble_eq_true h.1
    rw [look_cons, if_neg (by omega)]
    exact rq_noneB h.2 hi
theorem scs_st (S : Nat → Prop) : ∀ (l : List Ste), SV.scs S (l.flatMap Ste.cells)
  | [] => trivial
  | s :: l => by
    rw [List.flatMap_cons]
    exact ⟨trivial, trivial, scs_st S l⟩
set_option maxHeartbeats 2000000
structure Lnt where
  n : Net
  rs : List Rul
  pl : List Int
structure NetOK (x : Lnt) : Prop where
  N1 : 1 ≤ x.n.N.length
  N2 : x.n.N.length ≤ 1024
  inp0 : 0 ≤ x.n.inp
  inp1 : x.n.inp ≤ 256
  S1 : x.n.S.length ≤ 8192
  chk : ∀ i (h : i < x.n.N.length), chk x.n.N[i] = 0
  fr0 : ∀ i (h : i < x.n.S.length), -x.n.inp ≤ x.n.S[i].fr
  fr1 : ∀ i (h : i < x.n.S.length), x.n.S[i].fr < (x.n.N.length : Int)
  to0 : ∀ i (h : i < x.n.S.length), 0 ≤ x.n.S[i].to
  to1 : ∀ i (h : i < x.n.S.length), x.n.S[i].to < (x.n.N.length : Int)
  w0 : ∀ i (h : i < x.n.S.length), -32768 ≤ x.n.S[i].w
  w1 : ∀ i (h : i < x.n.S.length), x.n.S[i].w ≤ 32768
  d0 : ∀ i (h : i < x.n.S.length), 1 ≤ x.n.S[i].d
  d1 : ∀ i (h : i < x.n.S.length), x.n.S[i].d ≤ 16
  rl : x.rs.length ≤ 16
  rul : ∀ i (h : i < x.rs.length), GoodR x.rs[i]
  lpl : x.pl.length = x.n.S.length
  p0 : ∀ i (h : i < x.pl.length), -1 ≤ x.pl[i]
  p1 : ∀ i (h : i < x.pl.length), x.pl[i] < (x.rs.length : Int)
  pw : ∀ i (h : i < x.pl.length) (h' : i < x.n.S.length), 0 ≤ x.pl[i] → (x.rs.getD x.pl[i].toNat rul0).lo ≤ x.n.S[i].w ∧ x.n.S[i].w ≤ (x.rs.getD x.pl[i].toNat rul0).hi
theorem firstE_zero {α : Type} {f : α → Int} : ∀ {l : List α}, firstE f l = 0 → ∀ i (h : i < l.length), f l[i] = 0
  | [], _, i, h => by simp at h
  | a :: l, hz, i, h => by
    unfold firstE at hz
    split at hz
    · rename_i ha
      cases i with
      | zero => exact ha
      | succ i => simpa using firstE_zero hz i (by simpa using h)
    · rename_i ha; exact absurd hz ha
theorem wi_iff {n lo hi : Int} : wi n lo hi = true ↔ lo ≤ n ∧ n ≤ hi := by unfold wi; simp
theorem netOK_of {n : Net} {rs : List Rul} {pl : List Int} (h : learnChk n rs pl = 0) : NetOK ⟨n, rs, pl⟩ := by
  unfold learnChk at h
  split at h
  · rename_i h1; exact absurd h h1
  rename_i hn
  have hn : netChk n = 0 := by simpa using hn
  split at h
  · exact absurd h (by decide)
  rename_i hr
  split at h
  · rename_i h1; exact absurd h h1
  rename_i hru
  have hru : firstE rchk rs = 0 := by simpa using hru
  split at h
  · exact absurd h (by decide)
  rename_i hpl
  unfold netChk at hn
  split at hn
  · exact absurd hn (by decide)
  rename_i hN
  split at hn
  · exact absurd hn (by decide)
  rename_i hM
  simp only [Bool.or_eq_true, decide_eq_true_eq, not_or, Int.not_lt] at hM
  split at hn
  · exact absurd hn (by decide)
  rename_i hI
  split at hn
  case isFalse => rename_i h1; exact absurd hn h1
  rename_i hC
  have hS := firstE_zero hn
  have hlen : pl.length = n.S.length := by omega
  have hsy : ∀ i (h : i < n.S.length), synOk n.N.length n.inp n.S[i] = true := fun i hi => by
    have := hS i hi
    split at this
    · assumption
    · exact absurd this (by decide)
  have e1 : W (-n.inp) = -n.inp := W_id (by omega) (by omega)
  have e2 : W ((n.N.length : Int) - 1) = (n.N.length : Int) - 1 := W_id (by omega) (by omega)
  have hsy2 : ∀ i (h : i < n.S.length), (-n.inp ≤ n.S[i].fr ∧ n.S[i].fr ≤ (n.N.length : Int) - 1) ∧ (0 ≤ n.S[i].to ∧ n.S[i].to ≤ (n.N.length : Int) - 1) ∧ (-32768 ≤ n.S[i].w ∧ n.S[i].w ≤ 32768) ∧ 1 ≤ n.S[i].d ∧ n.S[i].d ≤ 16 := fun i hi => by
    have := hsy i hi
    unfold synOk srcB at this
    rw [e1, e2] at this
    simp only [Bool.and_eq_true, wi_iff] at this
    exact ⟨this.1.1.1, this.1.1.2, this.1.2, this.2⟩
  have hP := firstE_zero h
  have e3 : W ((rs.length : Int) - 1) = (rs.length : Int) - 1 := W_id (by omega) (by omega)
  have hp2 : ∀ i (h : i < pl.length) (h' : i < n.S.length), (-1 ≤ pl[i] ∧ pl[i] ≤ (rs.length : Int) - 1) ∧ (0 ≤ pl[i] → (rs.getD pl[i].toNat rul0).lo ≤ n.S[i].w ∧ n.S[i].w ≤ (rs.getD pl[i].toNat rul0).hi) := fun i hi hi' => by
    have := hP i (by simp; omega)
    unfold plErr at this
    rw [e3] at this
    simp only [List.getElem_zip] at this
    split at this
    · exact absurd this (by decide)
    rename_i hw
    have hw := wi_iff.1 (by simpa using hw)
    refine ⟨hw, fun h0 => ?_⟩
    rw [if_pos h0] at this
    have hk : pl[i].toNat < rs.length := by omega
    simp only [List.getElem?_eq_getElem hk] at this
    have hg : rs.getD pl[i].toNat rul0 = rs[pl[i].toNat] := by simp [List.getD_eq_getElem?_getD, hk]
    rw [hg]
    split at this
    · rename_i h2; exact wi_iff.1 h2
    · exact absurd this (by decide)
  exact ⟨by show 1 ≤ n.N.length; omega, by show n.N.length ≤ 1024; omega, by show 0 ≤ n.inp; omega, by show n.inp ≤ 256; omega, by show n.S.length ≤ 8192; omega, firstE_zero hC, fun i hi => (hsy2 i hi).1.1, fun i hi => by have := (hsy2 i hi).1.2; show n.S[i].fr < (n.N.length : Int); omega,
    fun i hi => (hsy2 i hi).2.1.1, fun i hi => by have := (hsy2 i hi).2.1.2; show n.S[i].to < (n.N.length : Int); omega, fun i hi => (hsy2 i hi).2.2.1.1, fun i hi => (hsy2 i hi).2.2.1.2, fun i hi => (hsy2 i hi).2.2.2.1, fun i hi => (hsy2 i hi).2.2.2.2,
    by show rs.length ≤ 16; omega, fun i hi => rchk_good.1 (firstE_zero hru i hi), hlen, fun i hi => (hp2 i hi (by have : i < pl.length := hi; show i < n.S.length; omega)).1.1, fun i hi => by have := (hp2 i hi (by have : i < pl.length := hi; omega)).1.2; show pl[i] < (rs.length : Int); omega, fun i hi hi' h0 => (hp2 i hi hi').2 h0⟩
theorem vld_start {p : Prm} (h : chk p = 0) : vld p ste0 = 0 := by
  have hg := chk_good.1 h
  refine vld_good.2 ⟨hg, ?_, ?_⟩
  · have := hg.floor; exact ⟨this.2, by decide⟩
  · exact ⟨by decide, hg.rest.1⟩
end Go.Proofs.Ythaigkamfnjfbaa
namespace Go.Sx
/-- The callee's numbers in the caller: below B by r, its new ones from n on. -/
def shR (r : Nat → Nat) (B n i : Nat) : Nat :=
  match Nat.blt i B with
  | true => r i
  | false => n + (i - B)
theorem shR_lt {r : Nat → Nat} {B n i : Nat} (h : i < B) : shR r B n i = r i := by
  unfold shR; rw [show Nat.blt i B = true by simpa [Nat.blt_eq] using h]
theorem shR_ge {r : Nat → Nat} {B n i : Nat} (h : B ≤ i) : shR r B n i = n + (i - B) := by
  unfold shR
  have : Nat.blt i B = false := by
    cases hb : Nat.blt i B with
    | false => rfl
    | true => have : i < B := by simpa [Nat.blt_eq] using hb
              omega
  rw [this]
theorem Env.join_renR {r : Nat → Nat} {ρ ρ' : Env} {B n : Nat} (hr : ∀ i, i < B → r i < n) (hag : Env.agree (· < B) (ρ.ren r) ρ') : (ρ.join B n ρ').ren (shR r B n) = ρ' := by
  have key : ∀ i, (ρ.join B n ρ').s (shR r B n i) = ρ'.s i ∧ (ρ.join B n ρ').o (shR r B n i) = ρ'.o i ∧ (ρ.join B n ρ').h (shR r B n i) = ρ'.h i := by
    intro i
    rcases Nat.lt_or_ge i B with h | h
    · rw [shR_lt h]
      obtain ⟨a1, a2, a3⟩ := hag i h
      have := hr i h
      simp only [Env.join, if_pos this]
      exact ⟨a1.symm, a2.symm, a3.symm⟩
    · rw [shR_ge h]
      have e1 : ¬ n + (i - B) < n := by omega
      have e2 : n + (i - B) - n + B = i := by omega
      simp only [Env.join, if_neg e1, e2, and_self]
  cases ρ' with
  | mk s o h =>
    unfold Env.ren
    congr 1
    · funext i; exact (key i).1
    · funext i; exact (key i).2.1
    · funext i; exact (key i).2.2
theorem WI.mergeR {w0 w w' : World} {L L' : List (Nat × Nat)} {ρ ρ' : Env} {M M1 : List (Nat × SObj)} {n n1 B : Nat} {r : Nat → Nat} (hW : WI w0 L ρ (look M) (· < n) w) (hr : ∀ i, i < B → r i < n) (hC : WI w L' ρ' (look M1) (· < n1) w') (hB1 : B ≤ n1) (hag : Env.agree (· < B) (ρ.ren r) ρ')
    (hL' : ∀ p ∈ L', p.1 < B ∧ ∃ o, look M (r p.1) = some o ∧ o.occ ρ (r p.1)) (M2 : List (Nat × SObj))
    (hM2 : ∀ x ∈ M2, (look M x.1 = some x.2 ∧ ∀ p ∈ L', r p.1 ≠ x.1) ∨ ∃ i o, shR r B n i = x.1 ∧ look M1 i = some o ∧ x.2 = o.ren (shR r B n) ∧ o.wnd = false) :
    WI w0 L (ρ.join B n ρ') (look M2) (· < n + (n1 - B)) w' ∧ Env.agree (· < n) ρ (ρ.join B n ρ') := by
  have hj := ρ.join_agree B n ρ'
  have hrr := Env.join_renR hr hag
  have hLs : ∀ p ∈ L', p.2 = ρ.s (r p.1) := fun p hp => by rw [← (hC.lid p hp).2, (hag p.1 (hL' p hp).1).1]; rfl
  have hup : ∀ i, i < n → i < n + (n1 - B) := fun i hi => by omega
  -- kept objects
  have kept : ∀ i o, look M i = some o → (∀ p ∈ L', r p.1 ≠ i) → i < n + (n1 - B) ∧ o.sc (· < n + (n1 - B)) ∧ o.holds w0 L (ρ.join B n ρ') i w' := by
    intro i o hi hp
    obtain ⟨g1, g2, g3⟩ := hW.mem i o hi
    refine ⟨hup i g1, SObj.sc_mono hup g2, SObj.holds_agree hj g1 g2 (fun ho => hC.keep _ (SObj.holds_lt g3 ho) fun p hp' he => ?_) g3⟩
    obtain ⟨_, o2, ho2, hocc2⟩ := hL' p hp'
    exact hW.dist (r p.1) i o2 o ho2 hi (hp p hp') hocc2 ho ((hLs p hp').symm.trans he)
  have keptB : ∀ i o, look M i = some o → o.occ (ρ.join B n ρ') i → o.occ ρ i := fun i o hi ho => (SObj.occ_agree hj (hW.mem i o hi).1).1 ho
  -- the callee's
  have theirs : ∀ i o, look M1 i = some o → o.wnd = false → shR r B n i < n + (n1 - B) ∧ (o.ren (shR r B n)).sc (· < n + (n1 - B)) ∧ (o.ren (shR r B n)).holds w0 L (ρ.join B n ρ') (shR r B n i) w' := by
    intro i o hi hwd
    obtain ⟨g1, g2, g3⟩ := hC.mem i o hi
    have hs : ∀ k, k < n1 → shR r B n k < n + (n1 - B) := by
      intro k hk
      rcases Nat.lt_or_ge k B with h | h
      · rw [shR_lt h]; have := hr k h; omega
      · rw [shR_ge h]; omega
    refine ⟨hs i g1, SObj.sc_ren hs g2, ?_⟩
    rw [holds_ren, hrr]
    cases o <;> first
      | exact g3
      | cases hwd
  have theirB : ∀ (i : Nat) (o : SObj), (o.ren (shR r B n)).occ (ρ.join B n ρ') (shR r B n i) → o.occ ρ' i := fun i o ho => by
    have := (occ_ren (ρ := ρ.join B n ρ') (r := shR r B n) (i := i) (o := o)).1 ho
    rwa [hrr] at this
  have theirS : ∀ i, (ρ.join B n ρ').s (shR r B n i) = ρ'.s i := fun i => by
    have := congrArg Env.s hrr
    exact congrFun this i
  have place : ∀ i o, look M1 i = some o → o.occ ρ' i → (∃ p ∈ L', p.2 = ρ'.s i) ∨ w.heap.size ≤ ρ'.s i := fun i o hi ho => hC.new i o hi ho
  have cross : ∀ i o j o', look M i = some o → (∀ p ∈ L', r p.1 ≠ i) → o.occ ρ i → look M1 j = some o' → o'.occ ρ' j → ρ.s i ≠ ρ'.s j := by
    intro i o j o' hi hp ho hj' ho' he
    rcases place j o' hj' ho' with ⟨p, hp', hpe⟩ | hge
    · obtain ⟨_, o2, ho2, hocc2⟩ := hL' p hp'
      exact hW.dist (r p.1) i o2 o ho2 hi (hp p hp') hocc2 ho (by rw [he, ← hpe, hLs p hp'])
    · have := SObj.holds_lt (hW.mem i o hi).2.2 ho
      omega
  refine ⟨⟨fun i o hi => ?_, fun i j oi oj hi hj' hne ho ho' => ?_, fun i o hi ho => ?_, fun p hp => ?_, fun k hk hL => ?_, Nat.le_trans hW.size hC.size, hC.os.trans hW.os, hC.tape.trans hW.tape, hC.output.trans hW.output⟩, hj⟩
  · rcases hM2 _ (look_mem hi) with ⟨h1, h2⟩ | ⟨i', o', h1, h2, h3, h4⟩
    · exact kept i o h1 h2
    · simp only at h1 h3
      subst h1 h3
      exact theirs i' o' h2 h4
  · rcases hM2 _ (look_mem hi) with ⟨a1, a2⟩ | ⟨i', oi', a1, a2, a3, a4⟩
    · rcases hM2 _ (look_mem hj') with ⟨b1, b2⟩ | ⟨j', oj', b1, b2, b3, b4⟩
      · rw [(hj i (hW.mem i oi a1).1).1, (hj j (hW.mem j oj b1).1).1]
        exact hW.dist i j oi oj a1 b1 hne (keptB i oi a1 ho) (keptB j oj b1 ho')
      · simp only at b1 b3
        subst b1 b3
        rw [(hj i (hW.mem i oi a1).1).1, theirS]
        exact cross i oi j' oj' a1 a2 (keptB i oi a1 ho) b2 (theirB j' oj' ho')
    · simp only at a1 a3
      subst a1 a3
      rcases hM2 _ (look_mem hj') with ⟨b1, b2⟩ | ⟨j', oj', b1, b2, b3, b4⟩
      · rw [(hj j (hW.mem j oj b1).1).1, theirS]
        exact (cross j oj i' oi' b1 b2 (keptB j oj b1 ho') a2 (theirB i' oi' ho)).symm
      · simp only at b1 b3
        subst b1 b3
        rw [theirS, theirS]
        exact hC.dist i' j' oi' oj' a2 b2 (fun e => hne (by rw [e])) (theirB i' oi' ho) (theirB j' oj' ho')
  · rcases hM2 _ (look_mem hi) with ⟨a1, a2⟩ | ⟨i', oi', a1, a2, a3, a4⟩
    · rw [(hj i (hW.mem i o a1).1).1]
      exact hW.new i o a1 (keptB i o a1 ho)
    · simp only at a1 a3
      subst a1 a3
      rw [theirS]
      rcases place i' oi' a2 (theirB i' oi' ho) with ⟨p, hp, hpe⟩ | hge
      · obtain ⟨_, o2, ho2, hocc2⟩ := hL' p hp
        rw [← hpe, hLs p hp]
        exact hW.new (r p.1) o2 ho2 hocc2
      · right; have := hW.size; omega
  · obtain ⟨h1, h2⟩ := hW.lid p hp
    exact ⟨hup _ h1, by rw [(hj _ h1).1, h2]⟩
  · rw [hC.keep k (by have := hW.size; omega) (fun p hp he => ?_)]
    · exact hW.keep k hk hL
    · obtain ⟨_, o2, ho2, hocc2⟩ := hL' p hp
      rcases hW.new (r p.1) o2 ho2 hocc2 with ⟨p', hp', hpe⟩ | hge
      · exact hL p' hp' (by rw [hpe, ← hLs p hp, he])
      · rw [← hLs p hp, he] at hge; omega
/-- What a callee is told, out of what the caller knows. -/
theorem WI.enterR {w0 w : World} {L : List (Nat × Nat)} {ρ : Env} {M : List (Nat × SObj)} {n : Nat} (hW : WI w0 L ρ (look M) (· < n) w) (r : Nat → Nat) (Mc : List (Nat × SObj)) (B : Nat) (is : List Nat) (hinj : ∀ i, i < B → ∀ j, j < B → i ≠ j → r i ≠ r j)
    (hMc : AllP (fun x => x.1 < B ∧ x.2.sc (· < B) ∧ (∃ o, look M (r x.1) = some o ∧ Conv o (x.2.ren r)) ∧ (x.2.wnd = true ∨ x.1 ∈ is) ∧ (x.2.wnd = true → x.1 ∉ is)) Mc) (his : ∀ i ∈ is, i < B ∧ ∃ o, look Mc i = some o) :
    ∃ L', (∀ p ∈ L', p.1 ∈ is ∧ p.2 = ρ.s (r p.1) ∧ ∃ o, look M (r p.1) = some o ∧ o.occ ρ (r p.1)) ∧ WI w L' (ρ.ren r) (look Mc) (· < B) w := by
  classical
  let L' : List (Nat × Nat) := (is.filter fun i => decide (∃ o, look M (r i) = some o ∧ o.occ ρ (r i))).map fun i => (i, ρ.s (r i))
  have hL' : ∀ p ∈ L', p.1 ∈ is ∧ p.2 = ρ.s (r p.1) ∧ ∃ o, look M (r p.1) = some o ∧ o.occ ρ (r p.1) := by
    intro p hp
    obtain ⟨i, hi, rfl⟩ := List.mem_map.1 hp
    obtain ⟨h1, h2⟩ := List.mem_filter.1 hi
    exact ⟨h1, rfl, of_decide_eq_true h2⟩
  refine ⟨L', hL', ?_⟩
  refine hW.again ((Ext.refl w).modF fun _ => False) r L' Mc B (fun p hp => ?_) (fun x hx => ?_) (fun x hx y hy h => hinj _ (hMc.mem x hx).1 _ (hMc.mem y hy).1 h)
  · obtain ⟨h1, h2, h3⟩ := hL' p hp
    obtain ⟨h4, o, h5⟩ := his p.1 h1
    exact ⟨h4, h2, ⟨_, look_mem h5, rfl⟩, h3⟩
  · obtain ⟨h1, h2, ⟨o, h3, h4⟩, h5, h6⟩ := hMc.mem x hx
    refine ⟨h1, h2, fun ho => ?_, o, h3, h4, ?_, fun hwd p hp he => h6 hwd (by rw [← he]; exact (hL' p hp).1)⟩
    · rcases h5 with h5 | h5
      · exfalso
        cases hx2 : x.2 <;> rw [hx2] at h5 ho <;> first | cases h5; done | exact ho.elim
      · refine ⟨(x.1, ρ.s (r x.1)), List.mem_map.2 ⟨x.1, List.mem_filter.2 ⟨h5, decide_eq_true ⟨o, h3, ?_⟩⟩, rfl⟩, rfl⟩
        rcases h4 with h4 | ⟨e, m, t, vs, _, _, h4⟩ | ⟨pk, nn, l, _, h4⟩
        · rw [← h4]; exact occ_ren.2 ho
        · have := (occ_ren (ρ := ρ) (r := r) (i := x.1) (o := x.2)).2 ho
          rw [h4] at this; exact this.elim
        · have := (occ_ren (ρ := ρ) (r := r) (i := x.1) (o := x.2)).2 ho
          rw [h4] at this; exact this.elim
    · cases o <;> simp [SObj.away]
/-- A call by a contract over told blocks. -/
theorem Run.callR {c : Cx} {T : List (Nat × SV)} {M : List (Nat × SObj)} {n : Nat} {D : List Deferred} {ops : Array Oper} {i : Nat} {r : List Nat} {k : List Item} {R : Ending → World → Prop} {o : Oper} {f : Operand} {args : Array Operand} {ts : Array TypeId}
    {fv : SV} {g : FuncId} {caps caps2 vs : List SV} {Mc : List (Nat × SObj)} {B : Nat} {is : List Nat} {v : SV} {M1 : List (Nat × SObj)} {n1 : Nat} (hspec : BSpec c.P g (vs ++ caps) Mc B is v M1 n1) (hg : Enters c.P g)
    (ho : get ops.toList i = some o) (hop : o.op = .call { callee := .value f, args := args, argTypes := ts }) (hw : wantS ops.toList (look T) o = some true) (hd : okD c.fn.ntmps o.dst = true)
    (hf : ev (look T) f = some fv) (hfv : calleeOf fv = some (g, caps2)) (vs2 : List SV) (hvs : evs (look T) args.toList = some vs2) (rn : Nat → Nat) (hvr : SV.rens rn (vs ++ caps) = vs2 ++ caps2) (hr : ∀ i, i < B → rn i < n) (hinj : ∀ i, i < B → ∀ j, j < B → i ≠ j → rn i ≠ rn j) (hB1 : B ≤ n1)
    (hMc : AllP (fun x => x.1 < B ∧ x.2.sc (· < B) ∧ (∃ o, look M (rn x.1) = some o ∧ Conv o (x.2.ren rn)) ∧ (x.2.wnd = true ∨ x.1 ∈ is) ∧ (x.2.wnd = true → x.1 ∉ is)) Mc) (his : ∀ i ∈ is, i < B ∧ ∃ o, look Mc i = some o)
    (v2 : SV) (M2 : List (Nat × SObj)) (n2 : Nat) (hv2 : v2 = v.ren (shR rn B n)) (hn2 : n2 = n + (n1 - B)) (hM2 : AllP (fun x => (look M x.1 = some x.2 ∧ ∀ i ∈ is, rn i ≠ x.1) ∨ ∃ i o, shR rn B n i = x.1 ∧ look M1 i = some o ∧ x.2 = o.ren (shR rn B n) ∧ o.wnd = false) M2)
    (h : Run c ⟨putS T o.dst v2, M2, n2, D, .inRegion ops r :: k⟩ R) : Run c ⟨T, M, n, D, .inRegion ops (i :: r) :: k⟩ R := by
  subst hv2 hn2
  refine Run.callG ho hop hw hd hf hfv hvs hg (fun v' M' n' => v' = v.ren (shR rn B n) ∧ M' = M2 ∧ n' = n + (n1 - B)) (fun ρ w _ hW => ?_) (fun v' M' n' hp => ?_)
  · obtain ⟨L', hL', hWc⟩ := hW.enterR rn Mc B is hinj hMc his
    have hcall := hspec (ρ.ren rn) w L' hWc fun p hp => (hL' p hp).1
    rw [← concs_ren, hvr] at hcall
    refine hcall.mono fun e w' ⟨ρ', he, hv, hag, hW'⟩ => ?_
    obtain ⟨hW2, hag2⟩ := hW.mergeR hr hW' hB1 hag (fun p hp => ⟨(his _ (hL' p hp).1).1, (hL' p hp).2.2⟩) M2 (fun x hx => by
      rcases hM2.mem x hx with ⟨h1, h2⟩ | h1
      · exact .inl ⟨h1, fun p hp => h2 _ (hL' p hp).1⟩
      · exact .inr h1)
    refine ⟨ρ.join B n ρ', _, _, _, ?_, hag2, by omega, ?_, hW2, rfl, rfl, rfl⟩
    · rw [he, conc_ren, Env.join_renR hr hag]
    · refine SV.sc_ren (fun j (hj : j < n1) => ?_) v hv
      show shR rn B n j < n + (n1 - B)
      rcases Nat.lt_or_ge j B with h | h
      · rw [shR_lt h]; have := hr j h; omega
      · rw [shR_ge h]; omega
  · obtain ⟨rfl, rfl, rfl⟩ := hp; exact h
def SObj.isRow : SObj → Bool
  | .row _ _ _ _ => true
  | _ => false
/-- What new numbers may stand for here: an empty row (a nil slice), an empty map that is only read (a nil map). -/
def NilKd (o : SObj) : Prop := (∃ e te, o = .row e 0 [] te) ∨ ∃ pk, o = .kmap pk false []
def Env.nils (ρ : Env) (n : Nat) (kd : Nat → SObj) : Env where
  s j := if j < n then ρ.s j else 0
  o j := if j < n then ρ.o j else match (kd (j - n)).isRow with
    | true => 0
    | false => 1
  h j := if j < n then ρ.h j else (none, 0, 0)
theorem Env.nils_agree (ρ : Env) (n : Nat) (kd : Nat → SObj) : Env.agree (· < n) ρ (ρ.nils n kd) := fun i (hi : i < n) => by simp [Env.nils, hi]
def NilV (n p : Nat) (kd : Nat → SObj) (v v' : SV) : Prop :=
  v' = v ∨ (v = .v (.slice none 0 0) ∧ ∃ k, k < p ∧ v' = .opq (n + k)) ∨ (v = .v (.map none) ∧ ∃ k, k < p ∧ (kd k).isRow = false ∧ v' = .mp (n + k))
def NilVs (n p : Nat) (kd : Nat → SObj) : List SV → List SV → Prop
  | [], [] => True
  | a :: l, b :: l' => NilV n p kd a b ∧ NilVs n p kd l l'
  | _, _ => False
def NilOs (n p : Nat) (kd : Nat → SObj) (o o' : SObj) : Prop := o' = o ∨ ∃ cs cs' t, o = .cells cs t ∧ o' = .cells cs' t ∧ NilVs n p kd cs cs'
theorem Run.nils {c : Cx} {T T' : List (Nat × SV)} {M M' : List (Nat × SObj)} {n : Nat} {D : List Deferred} {todo : List Item} {R : Ending → World → Prop} (p : Nat) (kd : Nat → SObj) (hkd : ∀ k, k < p → NilKd (kd k))
    (hT : AllP (fun x => ∃ v, look T x.1 = some v ∧ NilV n p kd v x.2) T') (hM : AllP (fun x => (∃ k, k < p ∧ x = (n + k, kd k)) ∨ ∃ o, look M x.1 = some o ∧ NilOs n p kd o x.2) M')
    (h : Run c ⟨T', M', n + p, D, todo⟩ R) : Run c ⟨T, M, n, D, todo⟩ R := by
  refine ⟨fun ρ a w hi => ?_⟩
  have ha := ρ.nils_agree n kd
  have hh : ∀ k, (ρ.nils n kd).h (n + k) = (none, 0, 0) := fun k => by simp only [Env.nils, if_neg (show ¬ n + k < n by omega)]
  have ho : ∀ k, (kd k).isRow = false → (ρ.nils n kd).o (n + k) = 1 := fun k hk => by
    simp only [Env.nils, if_neg (show ¬ n + k < n by omega), Nat.add_sub_cancel_left, hk]
  have ho2 : ∀ k, (kd k).isRow = true → (ρ.nils n kd).o (n + k) = 0 := fun k hk => by
    simp only [Env.nils, if_neg (show ¬ n + k < n by omega), Nat.add_sub_cancel_left, hk]
  have up : ∀ q, q < n → q < n + p := fun q hq => by omega
  have hval : ∀ v v', SV.sc (· < n) v → NilV n p kd v v' → v'.conc (ρ.nils n kd) = v.conc ρ ∧ v'.sc (· < n + p) := by
    rintro v v' hs (rfl | ⟨rfl, k, hk, rfl⟩ | ⟨rfl, k, hk, hr, rfl⟩)
    · exact ⟨conc_agree ha _ hs, SV.sc_mono up _ hs⟩
    · exact ⟨by simp [SV.conc, hh], by show n + k < n + p; omega⟩
    · exact ⟨by simp [SV.conc, ho k hr], by show n + k < n + p; omega⟩
  have hvals : ∀ cs cs', SV.scs (· < n) cs → NilVs n p kd cs cs' → SV.concs (ρ.nils n kd) cs' = SV.concs ρ cs ∧ SV.scs (· < n + p) cs' := by
    intro cs
    induction cs with
    | nil => intro cs' _ h; cases cs' with
      | nil => exact ⟨rfl, trivial⟩
      | cons _ _ => exact h.elim
    | cons v l ih => intro cs' hs h; cases cs' with
      | nil => exact h.elim
      | cons v' l' =>
        obtain ⟨a1, a2⟩ := hval v v' hs.1 h.1
        obtain ⟨b1, b2⟩ := ih l' hs.2 h.2
        exact ⟨by simp only [SV.concs, a1, b1], a2, b2⟩
  have hcase : ∀ kk o, look M' kk = some o → (∃ k, k < p ∧ kk = n + k ∧ o = kd k) ∨ (kk < n ∧ ∃ o0, look M kk = some o0 ∧ NilOs n p kd o0 o) := by
    intro kk o hk
    rcases hM.mem _ (look_mem hk) with ⟨k, hkp, hx⟩ | ⟨o0, h1, h2⟩
    · simp only [Prod.mk.injEq] at hx; exact .inl ⟨k, hkp, hx.1, hx.2⟩
    · exact .inr ⟨(hi.wi.mem _ _ h1).1, o0, h1, h2⟩
  have hoccK : ∀ k, k < p → ¬ (kd k).occ (ρ.nils n kd) (n + k) := by
    intro k hk hc
    rcases hkd k hk with ⟨e, te, h⟩ | ⟨pk, h⟩
    · rw [h] at hc
      have hc : ((ρ.nils n kd).h (n + k)).1 ≠ none := hc
      rw [hh] at hc; exact hc rfl
    · rw [h] at hc
      have hc : (ρ.nils n kd).o (n + k) = 0 := hc
      rw [ho k (by rw [h]; rfl)] at hc; exact absurd hc (by decide)
  have hocc : ∀ {kk : Nat} {o0 o : SObj}, look M kk = some o0 → NilOs n p kd o0 o → o.occ (ρ.nils n kd) kk → o0.occ ρ kk := by
    intro kk o0 o hk hno hc
    rcases hno with rfl | ⟨cs, cs', t, rfl, rfl, _⟩
    · exact (SObj.occ_agree ha (hi.wi.mem kk _ hk).1).1 hc
    · trivial
  refine h.go (ρ.nils n kd) a w ⟨hi.sz, ?_, hi.df, ⟨?_, ?_, ?_, ?_, hi.wi.keep, hi.wi.size, hi.wi.os, hi.wi.tape, hi.wi.output⟩⟩
  · intro t v ht
    obtain ⟨v0, h1, h2⟩ := hT.mem _ (look_mem ht)
    obtain ⟨g1, g2, g3⟩ := hi.tm t v0 h1
    obtain ⟨k1, k2⟩ := hval v0 v g3 h2
    exact ⟨g1, by rw [k1]; exact g2, k2⟩
  · intro kk o hk
    rcases hcase kk o hk with ⟨k, hkp, rfl, rfl⟩ | ⟨hlt, o0, h1, h2⟩
    · refine ⟨by show n + k < n + p; omega, ?_, ?_⟩
      · rcases hkd k hkp with ⟨e, te, h⟩ | ⟨pk, h⟩ <;> rw [h] <;> trivial
      · rcases hkd k hkp with ⟨e, te, h⟩ | ⟨pk, h⟩
        · have := ho2 k (by rw [h]; rfl)
          rw [h]
          exact ⟨this, by simp, .inl ⟨hh k, rfl⟩⟩
        · have := ho k (by rw [h]; rfl)
          rw [h]
          exact ⟨(fun x hx => absurd hx (by simp)), .inr ⟨rfl, by omega, rfl⟩⟩
    · obtain ⟨g1, g2, g3⟩ := hi.wi.mem kk o0 h1
      have g1' : kk < n := g1
      rcases h2 with rfl | ⟨cs, cs', t, rfl, rfl, hn⟩
      · exact ⟨up _ g1', SObj.sc_mono up g2, SObj.holds_agree ha g1 g2 (fun _ => rfl) g3⟩
      · obtain ⟨b1, b2⟩ := hvals cs cs' g2 hn
        obtain ⟨e1, e2, _⟩ := ha kk g1'
        refine ⟨up _ g1', b2, ?_⟩
        simp only [SObj.holds] at g3 ⊢
        rw [e1, e2, b1]; exact g3
  · intro i j oi oj hi' hj' hne ho' ho''
    rcases hcase i oi hi' with ⟨k, hkp, rfl, rfl⟩ | ⟨hlt, o0, h1, h2⟩
    · exact absurd ho' (hoccK k hkp)
    · rcases hcase j oj hj' with ⟨k, hkp, rfl, rfl⟩ | ⟨hlt', o1, h1', h2'⟩
      · exact absurd ho'' (hoccK k hkp)
      · rw [(ha i hlt).1, (ha j hlt').1]
        exact hi.wi.dist i j o0 o1 h1 h1' hne (hocc h1 h2 ho') (hocc h1' h2' ho'')
  · intro i o hi' ho'
    rcases hcase i o hi' with ⟨k, hkp, rfl, rfl⟩ | ⟨hlt, o0, h1, h2⟩
    · exact absurd ho' (hoccK k hkp)
    · rw [(ha i hlt).1]
      exact hi.wi.new i o0 h1 (hocc h1 h2 ho')
  · intro q hq
    obtain ⟨h1, h2⟩ := hi.wi.lid q hq
    have h1' : q.1 < n := h1
    exact ⟨up _ h1', by rw [(ha q.1 h1').1, h2]⟩
/-- At the return, told under any other numbers. -/
theorem SpecR.introQ {c : Cx} {Lo : List (Nat × Nat)} {M M1 : List (Nat × SObj)} {n n1 B : Nat} {pl : List (Nat × Nat × Nat × (Option Addr × Nat × Nat))} {v v0 : SV} (r : Nat → Nat) (hr : ∀ i, i < B → r i = i) (hinj : ∀ i, i < n1 → ∀ j, j < n1 → i ≠ j → r i ≠ r j) (hwid : Widens c.w0 Lo c.L) (hL : ∀ p ∈ Lo, p.1 < B) (hB : B ≤ n1) (hcov : Covers B pl) (hq : look M B = some (.pin pl)) (hv : v.ren r = v0) (hvs : v.sc (· < n1))
    (hM1 : AllP (fun x => look M (r x.1) = some (x.2.ren r) ∧ x.1 < n1 ∧ x.2.sc (· < n1)) M1) : RetOk c M n v0 (SpecR c.w0 Lo pl v M1 n1) := by
  refine ⟨fun ρ w hW _ => ⟨ρ.ren r, by rw [← hv, conc_ren], hvs, fun p hp => ?_, WI.less (r := r) ⟨hM1.mem, fun x hx y hy h => hinj _ (hM1.mem x hx).2.1 _ (hM1.mem y hy).2.1 h, fun p hp => ⟨hr _ (hL p hp), by have := hL p hp; omega⟩⟩ (hW.narrow hwid)⟩⟩
  have h1 := hcov.1 p hp
  have h2 := (hW.mem B _ hq).2.2 p hp
  simp only [Env.ren, hr _ h1]
  exact h2
end Go.Sx
namespace Go.Proofs.Ythaigkamfnjfbaa
open Go.Sx
set_option maxRecDepth 100000
set_option maxHeartbeats 4000000
/-- A copy of a slice that is told: 'e' cells an element, of the type te. -/
def FCl (e te : Nat) : Mem → List SV → Option (List Nat × SV) := fun M args => match args with
  | [.opq j] => match M j with
    | some (.rwin e2 n vs) => if e2 = e ∧ n ≤ 1000000 ∧ (∀ u ∈ vs, u.oneCell' = true) then some ([e, n, te], .agg (vs.map .v)) else none
    | some (.row e2 n xs _) => if e2 = e ∧ n ≤ 1000000 ∧ allOne xs = true then some ([e, n, te], .agg xs) else none
    | _ => none
  | _ => none
theorem ones_conc {ρ : Env} : ∀ {l : List SV}, allOne l = true → ∀ u ∈ SV.concs ρ l, u.oneCell' = true := by
  intro l h u hu
  rw [concs_map] at hu
  obtain ⟨v, hv, rfl⟩ := List.mem_map.1 hu
  exact one_conc (allOne_mem h v hv)
theorem Maker.clone {g : FuncId} {e te : Nat} (he : 0 < e) (hg : Enters Try.prog g) (h : ∀ (v : Value) (n : Nat) (vs : List Value) (w : World), RowsAt w v e n vs → (∀ u ∈ vs, u.oneCell' = true) → n ≤ 1000000 → Calls Try.prog g #[v] w (ClonePost te e n vs w)) : Maker Try.prog g (FCl e te) where
  ent := hg
  cong M M' args hb := by
    unfold FCl
    split
    · rename_i j
      rw [hb (.opq j) (by simp) j (by simp [blkOf])]
    · rfl
  run w0 L ρ M S args e2 m te2 xs w hW hF hs := by
    unfold FCl at hF
    split at hF
    case h_2 => cases hF
    rename_i j
    split at hF
    · rename_i e3 n vs hM
      split at hF
      case isFalse => cases hF
      rename_i hc
      obtain ⟨rfl, h1, h2⟩ := hc
      simp only [Option.some.injEq, Prod.mk.injEq, List.cons.injEq, SV.agg.injEq, and_true] at hF
      obtain ⟨⟨rfl, rfl, rfl⟩, rfl⟩ := hF
      exact ⟨scs_v S vs, (h _ n vs w (hW.rowsAt hM) h2 h1).mono fun en w' hp => by rw [concs_v]; exact hp⟩
    · rename_i e3 n xs2 t2 hM
      split at hF
      case isFalse => cases hF
      rename_i hc
      obtain ⟨rfl, h1, h2⟩ := hc
      simp only [Option.some.injEq, Prod.mk.injEq, List.cons.injEq, SV.agg.injEq, and_true] at hF
      obtain ⟨⟨rfl, rfl, rfl⟩, rfl⟩ := hF
      exact ⟨(hW.mem j _ hM).2.1, h _ n _ w (hW.rowsAtR hM he) (ones_conc h2) h1⟩
    · cases hF
  runM w0 L ρ M S args pk w _ hF _ := by
    exfalso
    unfold FCl at hF
    split at hF
    · split at hF
      · split at hF
        · cases hF
        · cases hF
      · split at hF
        · cases hF
        · cases hF
      · cases hF
    · cases hF
theorem FCl_win {e te n : Nat} {vs : List Value} {M : Mem} {j : Nat} (hM : M j = some (.rwin e n vs)) (hn : n ≤ 1000000) (h1 : ∀ u ∈ vs, u.oneCell' = true) : FCl e te M [.opq j] = some ([e, n, te], .agg (vs.map .v)) := by
  unfold FCl
  simp only [hM]
  rw [if_pos ⟨trivial, hn, h1⟩]
theorem mk_params : Maker Try.prog 52 (FCl 8 88) := Maker.clone (by decide) (ent _ _ Try.func52 (by kernel_rfl) rfl) cloneParams
theorem opF_callM {tab : Tab} {pf : PF} {T : Tm} {M : Mem} {n : Nat} {f : Operand} {args : Array Operand} {ts : Array TypeId} {fv : SV} {g : FuncId} {vs : List SV} {F : Mem → List SV → Option (List Nat × SV)} {e m te : Nat} {xs : List SV} (hf : ev T f = some fv) (hfv : calleeOf fv = some (g, [])) (hg : Sx.look pf g = none) (hg2 : Sx.look pf (g + 1000) = some F) (hvs : evs T args.toList = some vs) (hF : F M vs = some ([e, m, te], .agg xs)) (hgb : Nat.blt g 1000 = true := by rfl) :
    opF tab pf T M n (.call { callee := .value f, args := args, argTypes := ts }) = some (.new (.opq n) (.row e m xs te)) := by
  simp only [opF, opCall, hf, hfv, hgb, hg, opCallM, hg2, hvs, hF]
theorem opF_make2 {tab : Tab} {pf : PF} {T : Tm} {M : Mem} {n m bytes : Nat} {t te : TypeId} {x y : Operand} {ti tie : TI} {kx ky : IntKind} {z0 z1 : Value} (ht : Sx.look tab t = some ti) (hs : ti.sh = .slc te 2 bytes) (hte : Sx.look tab te = some tie) (hz : tie.zero = [z0, z1])
    (hx : ev T x = some (.v (.int kx (m : Int)))) (hy : ev T y = some (.v (.int ky (m : Int)))) (hb : bytes * m ≤ 281474976710656) (hm : m ≤ 8388608) : opF tab pf T M n (.makeSlice t x y) = some (.new (.opq n) (.row 2 m ((List.replicate m ()).flatMap fun _ => [.v z0, .v z1]) te)) := by
  simp only [opF, opMake, ht, hs, hte, hz, hx, hy, Int.toNat_natCast]
  rw [decide_eq_true (p := 0 ≤ (m : Int) ∧ True ∧ bytes * m ≤ 281474976710656 ∧ (m : Int) ≤ 8388608) ⟨by omega, trivial, hb, by omega⟩]
theorem one_vals {α : Type} {f : α → List Value} (hf : ∀ a, ∀ u ∈ f a, u.oneCell' = true) (l : List α) : ∀ u ∈ l.flatMap f, u.oneCell' = true := fun u hu => by
  obtain ⟨a, _, h⟩ := List.mem_flatMap.1 hu
  exact hf a u h
theorem one_prm (l : List Prm) : ∀ u ∈ l.flatMap Prm.vals, u.oneCell' = true := one_vals (fun a u hu => by simp [Prm.vals] at hu; rcases hu with rfl | rfl | rfl | rfl | rfl | rfl | rfl | rfl <;> rfl) l
theorem st_rep : ∀ n : Nat, ((List.replicate n ()).flatMap fun _ => [SV.v (.int .i64 0), SV.v (.int .i64 0)]) = (List.replicate n ste0).flatMap Ste.cells
  | 0 => rfl
  | n + 1 => by
    rw [List.replicate_succ, List.replicate_succ, List.flatMap_cons, List.flatMap_cons, st_rep n]; rfl
set_option maxHeartbeats 2000000
/-- An event: its tick, and its input or neuron. -/
structure Evt where
  tick : Int
  id : Int
  deriving DecidableEq
def Evt.vals (x : Evt) : List Value := [.int .i64 x.tick, .int .i64 x.id]
def Evt.cells (x : Evt) : List SV := [ii x.tick, ii x.id]
theorem Evt.vlen (x : Evt) : x.vals.length = 2 := rfl
def evt0 : Evt := ⟨0, 0⟩
/-- The error of an event of a list. -/
def evAt (inp lim : Int) (l : List Evt) (i : Nat) : Int :=
  if (wi (l.getD i evt0).tick 0 (W (lim - 1)) && wi (l.getD i evt0).id 0 (W (inp - 1))) = false then 3
  else if 0 < i ∧ ((l.getD i evt0).tick < (l.getD (i - 1) evt0).tick ∨ (l.getD i evt0).tick = (l.getD (i - 1) evt0).tick ∧ (l.getD i evt0).id ≤ (l.getD (i - 1) evt0).id) then 2 else 0
def evsChk (inp lim : Int) (l : List Evt) : Int := if 65536 < (l.length : Int) then 9 else firstE (evAt inp lim l) (List.range l.length)
theorem firstN_at {f : Nat → Int} {n i : Nat} (hi : i < n) (h0 : ∀ j, j < n → j < i → f j = 0) (h : f i ≠ 0) : firstE f (List.range n) = f i := by
  have hl : i < (List.range n).length := by simpa using hi
  have := firstE_at (f := f) hl (fun j hj hji => by simpa using h0 j (by simpa using hj) hji) (by simpa using h)
  simpa using this
theorem firstN_all {f : Nat → Int} {n : Nat} (h0 : ∀ j, j < n → f j = 0) : firstE f (List.range n) = 0 := firstE_all fun j hj => by simpa using h0 j (by simpa using hj)
theorem upN {n i : Nat} {P : Nat → Prop} (hJ : ∀ j, j < n → j < i → P j) (hp : P i) : ∀ j, j < n → j < i + 1 → P j := fun j hj hji => by
  rcases Nat.lt_or_ge j i with h | h
  · exact hJ j hj h
  · have : j = i := by omega
    subst this; exact hp
theorem nordered_run (vN vS : Value) (n : Net) (vE : Value) (l : List Evt) (lim : Int) (w : World) (hn : IsNet w vN vS n) (hr : RowsAt w vE 2 l.length (l.flatMap Evt.vals)) :
    Calls Try.prog 51 #[netV vN vS n, vE, .int .i64 lim] w fun e w' => e = .returned (.int .i64 (evsChk n.inp lim l)) ∧ Ext w w' := by
  have hc : ∀ L, Cx.ok ⟨Try.prog, tab, [(50, F3 fun n lo hi => .bool (wi n lo hi))], 51, Try.f51, [], w, L, none⟩ := fun L => ⟨tab_ok, ⟨nwithin_pure, trivial⟩, Try.func51, mixed, fun _ h => by cases h⟩
  obtain ⟨h1, h2⟩ := hn
  obtain ⟨N, inp, S⟩ := n
  simp only at h1 h2
  have hrows : AllP (fun x : Value × Nat × Nat × List Value => RowsAt w x.1 x.2.1 x.2.2.1 x.2.2.2) [(vN, 8, N.length, N.flatMap Prm.vals), (vS, 4, S.length, S.flatMap Syn.vals), (vE, 2, l.length, l.flatMap Evt.vals)] := ⟨h1, h2, hr, trivial⟩
  refine Run.startW Try.func51 rfl _ hrows [.agg [.opq 0, ii inp, .opq 1], .opq 2, ii lim] [netV vN vS ⟨N, inp, S⟩, vE, .int .i64 lim] [(0, .rwin 8 N.length (N.flatMap Prm.vals)), (1, .rwin 4 S.length (S.flatMap Syn.vals)), (2, .rwin 2 l.length (l.flatMap Evt.vals))] 3 rfl rfl
    (by show [Value.agg [(SV.opq 0).conc _, .int .i64 inp, (SV.opq 1).conc _].toArray, (SV.opq 2).conc _, .int .i64 lim] = _; rw [conc_rows hrows (k := 0) rfl, conc_rows hrows (k := 1) rfl, conc_rows hrows (k := 2) rfl]; rfl) (by simp [SV.scs, SV.sc]) rfl (Run.of_wpK (hc _) 1000 _ ?_)
  conv => whnf
  have fin : ∀ x : Int, evsChk inp lim l = x → ∀ {M : List (Nat × SObj)} {n : Nat} {c : Cx}, c.w0 = w → c.L = [] → RetOk c M n (.v (.int .i64 x)) (fun e w' => e = .returned (.int .i64 (evsChk inp lim l)) ∧ Ext w w') :=
    fun x hx M n c hw hL => ⟨fun ρ w' hW _ => ⟨by rw [hx]; rfl, by rw [hw, hL] at hW; exact hW.toExt⟩⟩
  cases e1 : decide (65536 < (l.length : Int))
  case true =>
    conv => whnf
    exact fin 9 (by unfold evsChk; rw [if_pos (of_decide_eq_true e1)]) rfl rfl
  have e1' := of_decide_eq_false e1
  conv => whnf
  refine Run.trim (T' := [(1, .opq 2), (2, ii lim), (3, .ptr 3 0), (6, ii 0), (12, .opq 2), (13, ii (l.length : Int)), (14, ii ((0 : Nat) : Int))]) (M' := [(3, .cells [.opq 0, ii inp, .opq 1] 57), (0, .rwin 8 N.length (N.flatMap Prm.vals)), (1, .rwin 4 S.length (S.flatMap Syn.vals)), (2, .rwin 2 l.length (l.flatMap Evt.vals))]) 4 ⟨⟨rfl, (show 2 < 4 by decide)⟩, ⟨rfl, trivial⟩, ⟨rfl, (show 3 < 4 by decide)⟩, ⟨rfl, trivial⟩, ⟨rfl, (show 2 < 4 by decide)⟩, ⟨rfl, trivial⟩, ⟨rfl, trivial⟩, trivial⟩ ⟨⟨rfl, (show 3 < 4 by decide), by simp [SObj.sc, SV.scs, SV.sc]⟩, ⟨rfl, (show 0 < 4 by decide), trivial⟩, ⟨rfl, (show 1 < 4 by decide), trivial⟩, ⟨rfl, (show 2 < 4 by decide), trivial⟩, trivial⟩ (fun q hq => by cases hq) ?_
  refine Run.upToJ (T := fun i => [(1, .opq 2), (2, ii lim), (3, .ptr 3 0), (6, ii 0), (12, .opq 2), (13, ii (l.length : Int)), (14, ii (i : Int))]) (M := fun i => [(3, .cells [.opq 0, ii inp, .opq 1] 57), (0, .rwin 8 N.length (N.flatMap Prm.vals)), (1, .rwin 4 S.length (S.flatMap Syn.vals)), (2, .rwin 2 l.length (l.flatMap Evt.vals))]) (fun i => ∀ j, j < l.length → j < i → evAt inp lim l j = 0) (l.length) ?_ ?_ ?_
  · exact fun j _ h => absurd h (Nat.not_lt_zero j)
  · intro i hi hJ ih
    refine Run.of_wpK (hc _) 1000 _ ?_
    conv => whnf
    rw [decide_eq_true (show ((i : Nat) : Int) < (l.length : Int) by omega)]
    conv => whnf
    have hgi : l.getD i evt0 = l[i] := by simp [List.getD_eq_getElem?_getD, hi]
    have three : ∀ x, evAt inp lim l i = x → x ≠ 0 → evsChk inp lim l = x := fun x hx hx0 => by
      unfold evsChk
      rw [if_neg e1', firstN_at hi (fun j hj hji => hJ j hj hji) (by rw [hx]; exact hx0), hx]
    refine ⟨by omega, ?_⟩
    conv => whnf
    rw [opF_loadW (f := Evt.vals) (l := l) i rfl rfl rfl rfl rfl Evt.vlen (by rw [idx_nat]) hi]
    conv => whnf
    cases b0 : wi l[i].tick 0 (IntKind.i64.wrap (lim - 1))
    case false =>
      conv => whnf
      exact fin 3 (three 3 (by unfold evAt W; rw [hgi, b0]; rfl) (by decide)) rfl rfl
    conv => whnf
    cases b1 : wi l[i].id 0 (IntKind.i64.wrap (inp - 1))
    case false =>
      conv => whnf
      exact fin 3 (three 3 (by unfold evAt W; rw [hgi, b0, b1]; rfl) (by decide)) rfl rfl
    conv => whnf
    refine Run.draw (hc _) 32 ?_
    rw [show upto 0 32 = upto 0 2 ++ (upto 2 7 ++ (upto 9 2 ++ (upto 11 1 ++ (upto 12 7 ++ (upto 19 2 ++ (upto 21 1 ++ (upto 22 7 ++ (upto 29 2 ++ upto 31 1)))))))) from rfl]
    simp only [drawK_app]
    conv => whnf
    cases b5 : decide ((0 : Int) < (i : Int))
    case false =>
      have hi0 := of_decide_eq_false b5
      conv => whnf
      refine ⟨by kernel_rfl, ?_⟩
      refine Run.of_wpK (hc _) 1000 _ ?_
      conv => whnf
      rw [wrap_succ (i := i) (by omega)]
      exact Run.trim (T' := [(1, .opq 2), (2, ii lim), (3, .ptr 3 0), (6, ii 0), (12, .opq 2), (13, ii (l.length : Int)), (14, ii ((i + 1 : Nat) : Int))]) (M' := [(3, .cells [.opq 0, ii inp, .opq 1] 57), (0, .rwin 8 N.length (N.flatMap Prm.vals)), (1, .rwin 4 S.length (S.flatMap Syn.vals)), (2, .rwin 2 l.length (l.flatMap Evt.vals))]) 4 ⟨⟨rfl, (show 2 < 4 by decide)⟩, ⟨rfl, trivial⟩, ⟨rfl, (show 3 < 4 by decide)⟩, ⟨rfl, trivial⟩, ⟨rfl, (show 2 < 4 by decide)⟩, ⟨rfl, trivial⟩, ⟨rfl, trivial⟩, trivial⟩ ⟨⟨rfl, (show 3 < 4 by decide), by simp [SObj.sc, SV.scs, SV.sc]⟩, ⟨rfl, (show 0 < 4 by decide), trivial⟩, ⟨rfl, (show 1 < 4 by decide), trivial⟩, ⟨rfl, (show 2 < 4 by decide), trivial⟩, trivial⟩ (fun q hq => by cases hq) (ih (upN hJ (by unfold evAt W; rw [hgi, b0, b1, if_neg (by decide), if_neg (fun h => hi0 (by omega))])))
    have hi0 : 0 < i := by have := of_decide_eq_true b5; omega
    have him : i - 1 < l.length := by omega
    have hgm : l.getD (i - 1) evt0 = l[i - 1] := by simp [List.getD_eq_getElem?_getD, him]
    have hwr : IntKind.i64.wrap ((i : Int) - 1) = ((i - 1 : Nat) : Int) := by
      have := W_id (a := (i : Int) - 1) (by omega) (by omega)
      have e : IntKind.i64.wrap ((i : Int) - 1) = (i : Int) - 1 := this
      omega
    conv => whnf
    rw [hwr]
    refine ⟨by omega, ?_⟩
    conv => whnf
    rw [opF_loadWf (f := Evt.vals) (l := l) (c := .int .i64 l[i - 1].tick) (i - 1) 0 rfl rfl rfl rfl Evt.vlen (by rw [idx_nat]) him (by decide) rfl]
    conv => whnf
    cases b6 : decide (l[i].tick < l[i - 1].tick)
    case true =>
      have b6' := of_decide_eq_true b6
      conv => whnf
      refine ⟨by kernel_rfl, ?_⟩
      refine Run.of_wpK (hc _) 1000 _ ?_
      conv => whnf
      exact fin 2 (three 2 (by unfold evAt W; rw [hgi, hgm, b0, b1, if_neg (by decide), if_pos ⟨hi0, .inl b6'⟩]) (by decide)) rfl rfl
    have b6' := of_decide_eq_false b6
    conv => whnf
    rw [hwr]
    refine ⟨by omega, ?_⟩
    conv => whnf
    rw [opF_loadWf (f := Evt.vals) (l := l) (c := .int .i64 l[i - 1].tick) (i - 1) 0 rfl rfl rfl rfl Evt.vlen (by rw [idx_nat]) him (by decide) rfl]
    conv => whnf
    cases b7 : (l[i].tick == l[i - 1].tick)
    case false =>
      have b7' : ¬ l[i].tick = l[i - 1].tick := by simpa using b7
      conv => whnf
      refine ⟨by kernel_rfl, ?_⟩
      refine Run.of_wpK (hc _) 1000 _ ?_
      conv => whnf
      rw [wrap_succ (i := i) (by omega)]
      exact Run.trim (T' := [(1, .opq 2), (2, ii lim), (3, .ptr 3 0), (6, ii 0), (12, .opq 2), (13, ii (l.length : Int)), (14, ii ((i + 1 : Nat) : Int))]) (M' := [(3, .cells [.opq 0, ii inp, .opq 1] 57), (0, .rwin 8 N.length (N.flatMap Prm.vals)), (1, .rwin 4 S.length (S.flatMap Syn.vals)), (2, .rwin 2 l.length (l.flatMap Evt.vals))]) 4 ⟨⟨rfl, (show 2 < 4 by decide)⟩, ⟨rfl, trivial⟩, ⟨rfl, (show 3 < 4 by decide)⟩, ⟨rfl, trivial⟩, ⟨rfl, (show 2 < 4 by decide)⟩, ⟨rfl, trivial⟩, ⟨rfl, trivial⟩, trivial⟩ ⟨⟨rfl, (show 3 < 4 by decide), by simp [SObj.sc, SV.scs, SV.sc]⟩, ⟨rfl, (show 0 < 4 by decide), trivial⟩, ⟨rfl, (show 1 < 4 by decide), trivial⟩, ⟨rfl, (show 2 < 4 by decide), trivial⟩, trivial⟩ (fun q hq => by cases hq) (ih (upN hJ (by unfold evAt W; rw [hgi, hgm, b0, b1, if_neg (by decide), if_neg (fun h => h.2.elim b6' fun h => b7' h.1)])))
    have b7' : l[i].tick = l[i - 1].tick := by simpa using b7
    conv => whnf
    rw [hwr]
    refine ⟨by omega, ?_⟩
    conv => whnf
    rw [opF_loadWf (f := Evt.vals) (l := l) (c := .int .i64 l[i - 1].id) (i - 1) 1 rfl rfl rfl rfl Evt.vlen (by rw [idx_nat]) him (by decide) rfl]
    conv => whnf
    cases b8 : decide (l[i].id ≤ l[i - 1].id)
    case true =>
      have b8' := of_decide_eq_true b8
      conv => whnf
      refine ⟨by kernel_rfl, ?_⟩
      refine Run.of_wpK (hc _) 1000 _ ?_
      conv => whnf
      exact fin 2 (three 2 (by unfold evAt W; rw [hgi, hgm, b0, b1, if_neg (by decide), if_pos ⟨hi0, .inr ⟨b7', b8'⟩⟩]) (by decide)) rfl rfl
    have b8' := of_decide_eq_false b8
    conv => whnf
    refine ⟨by kernel_rfl, ?_⟩
    refine Run.of_wpK (hc _) 1000 _ ?_
    conv => whnf
    rw [wrap_succ (i := i) (by omega)]
    exact Run.trim (T' := [(1, .opq 2), (2, ii lim), (3, .ptr 3 0), (6, ii 0), (12, .opq 2), (13, ii (l.length : Int)), (14, ii ((i + 1 : Nat) : Int))]) (M' := [(3, .cells [.opq 0, ii inp, .opq 1] 57), (0, .rwin 8 N.length (N.flatMap Prm.vals)), (1, .rwin 4 S.length (S.flatMap Syn.vals)), (2, .rwin 2 l.length (l.flatMap Evt.vals))]) 4 ⟨⟨rfl, (show 2 < 4 by decide)⟩, ⟨rfl, trivial⟩, ⟨rfl, (show 3 < 4 by decide)⟩, ⟨rfl, trivial⟩, ⟨rfl, (show 2 < 4 by decide)⟩, ⟨rfl, trivial⟩, ⟨rfl, trivial⟩, trivial⟩ ⟨⟨rfl, (show 3 < 4 by decide), by simp [SObj.sc, SV.scs, SV.sc]⟩, ⟨rfl, (show 0 < 4 by decide), trivial⟩, ⟨rfl, (show 1 < 4 by decide), trivial⟩, ⟨rfl, (show 2 < 4 by decide), trivial⟩, trivial⟩ (fun q hq => by cases hq) (ih (upN hJ (by unfold evAt W; rw [hgi, hgm, b0, b1, if_neg (by decide), if_neg (fun h => h.2.elim b6' fun h => b8' h.2)])))
  · intro hJ
    refine Run.of_wpK (hc _) 1000 _ ?_
    conv => whnf
    rw [decide_eq_false (show ¬ ((l.length : Nat) : Int) < (l.length : Int) by omega)]
    conv => whnf
    exact fin 0 (by unfold evsChk; rw [if_neg e1', firstN_all fun j hj => hJ j hj hj]) rfl rfl
end Go.Proofs.Ythaigkamfnjfbaa
namespace Go.Sx
theorem run_zeroV {P : Program} (w : World) {t : TypeId} {inf : TypeInfo} {z : Value} (hi : P.info? t = some inf) (hz : inf.zero = some z) : (zeroValue t).run P w = .ok z w := by
  simp [zeroValue, typeInfo, hi, hz]
theorem zeroCells_one (zv : Value) (m : Nat) : (Builtin.zeroCells #[zv] m).toList = List.replicate m zv := by
  unfold Builtin.zeroCells
  refine List.ext_getElem (by simp) fun i h1 h2 => ?_
  simp [Nat.mod_one]
/-- A slice of elements of one cell is cleared. -/
theorem Run.clear1 {c : Cx} (hc : c.ok) {T : List (Nat × SV)} {M : List (Nat × SObj)} {n : Nat} {D : List Deferred} {ops : Array Oper} {i : Nat} {r : List Nat} {k : List Item} {R : Ending → World → Prop} {o : Oper} {x : Operand} {t : TypeId}
    (ho : get ops.toList i = some o) (hop : o.op = .call { callee := .builtin .clear, args := #[x], argTypes := #[t] }) (hw : wantS ops.toList (look T) o = some true) (hd : okD c.fn.ntmps o.dst = true)
    {j m : Nat} {xs : List SV} {te : TypeId} (hx : ev (look T) x = some (.opq j)) (hj : look M j = some (.row 1 m xs te))
    {ti tie : TI} {bytes : Nat} (hti : look c.tab t = some ti) (hsh : ti.sh = .slc te 1 bytes) (hte : look c.tab te = some tie) {zv : Value} (hz : tie.zero = [zv]) (h1 : zv.oneCell' = true)
    (h : Run c ⟨putS T o.dst (.tup []), (j, .row 1 m (List.replicate m (.v zv)) te) :: M, n, D, .inRegion ops r :: k⟩ R) : Run c ⟨T, M, n, D, .inRegion ops (i :: r) :: k⟩ R := by
  refine ⟨fun ρ a w hi => ?_⟩
  rw [get_eq, Array.getElem?_toList] at ho
  refine TW.op ho (wantS_ok hi.tm hw) ?_
  obtain ⟨hx1, _⟩ := ev_ok hi.tm hx
  have hti := Tab.ok_look hc.tab hti
  have hte := Tab.ok_look hc.tab hte
  obtain ⟨d, hd1, hd2⟩ := hti.desc
  obtain ⟨inf, rfl, g2, g3, g4⟩ := sh_desc.2.2.2.2.1 te 1 bytes (hd2.trans hsh)
  obtain ⟨inf', z, i1, _, i3, i4⟩ := hte.infos
  rw [g2] at i1
  obtain rfl := Option.some.inj i1
  have hzc : z.cells = #[zv] := by rw [hz] at i4; rw [← i4]
  obtain ⟨hjn, hscr, hoff, hlen, hrow⟩ := hi.wi.mem j _ hj
  have hund : (underlying t).run c.P w = .ok (.slice te) w := by simp [underlying, hd1]
  have key : ∀ w', (execOp a.eval o).run c.P w = .ok (.value (.tuple #[])) w' → WI c.w0 c.L ρ (upd (look M) j (.row 1 m (List.replicate m (.v zv)) te)) (· < n) w' → Oc c.P a o w fun v w' => TW c.P c.f c.rr (a.put o.dst v) (.inRegion ops r :: k) w' R := by
    intro w' hr hW'
    refine Oc.value (v := .tuple #[]) hr ?_
    rw [← look_upd] at hW'
    have hinv := hi.put (ρ' := ρ) hd (Env.agree.refl _ ρ) (Nat.le_refl n) (v := .tup []) trivial hW' (.inRegion ops r :: k)
    exact h.go _ _ w' hinv
  have hl0 : m = 0 → xs = [] := fun h0 => List.eq_nil_of_length_eq_zero (by rw [hlen, h0, Nat.zero_mul])
  have same : m = 0 → WI c.w0 c.L ρ (upd (look M) j (.row 1 m (List.replicate m (.v zv)) te)) (· < n) w := fun h0 => by
    have e : upd (look M) j (.row 1 m (List.replicate m (.v zv)) te) = look M := by
      funext q
      unfold upd
      split
      · rename_i e; subst e; rw [hj, hl0 h0, h0]; rfl
      · rfl
    rw [e]; exact hi.wi
  rcases hrow with ⟨hh, h0⟩ | ⟨cap, sp, hh, hcap, hheap⟩
  · refine key w ?_ (same h0)
    simp only [SV.conc, hh] at hx1
    simp [execOp, hop, resolve, invoke, builtin, hx1, Builtin.clear_, hund]
  · simp only [SV.conc, hh] at hx1
    rcases Nat.eq_zero_or_pos m with h0 | h0
    · refine key w ?_ (same h0)
      subst h0
      simp [execOp, hop, resolve, invoke, builtin, hx1, Builtin.clear_, hund]
    · have hst := run_stores (P := c.P) (ρ.s j) 0 te (List.replicate m zv) 0 (SV.concs ρ xs ++ sp) w hheap (by simp [concs_length]; omega) (fun v hv => by rw [List.eq_of_mem_replicate hv]; exact h1)
      have hl2 : List.take (0 + 0) (SV.concs ρ xs ++ sp) ++ List.replicate m zv ++ List.drop (0 + 0 + (List.replicate m zv).length) (SV.concs ρ xs ++ sp) = SV.concs ρ (List.replicate m (.v zv)) ++ sp := by
        have hxl : (SV.concs ρ xs).length = m := by rw [concs_length, hlen, Nat.mul_one]
        have hrep : SV.concs ρ (List.replicate m (.v zv)) = List.replicate m zv := by rw [concs_map, List.map_replicate]; rfl
        rw [hrep, List.length_replicate, Nat.zero_add, Nat.zero_add, List.take_zero, List.nil_append]
        conv => lhs; rw [← hxl]
        rw [List.drop_left, hxl]
      rw [hl2] at hst
      have hscs : SV.scs (· < n) (List.replicate m (SV.v zv)) := by
        rw [scs_iff]; intro a ha; rw [List.eq_of_mem_replicate ha]; trivial
      refine key (w.setRow (ρ.s j) (SV.concs ρ (List.replicate m (.v zv)) ++ sp).toArray) ?_ ?_
      · have hz2 := run_zeroV (P := c.P) w g2 i3
        obtain ⟨m', rfl⟩ : ∃ m', m = m' + 1 := ⟨m - 1, by omega⟩
        simp [execOp, hop, resolve, invoke, builtin, hx1, Builtin.clear_, hund, hz2, hzc, zeroCells_one, hst]
      · refine hi.wi.write (o' := .row 1 m (List.replicate m (.v zv)) te) hj (by simp [SObj.occ, hh]) hscs (setRow_heap w _ _ _ _ _ hheap) (fun hheap' => ?_) (fun q hq => setRow_other w _ _ _ hq) (setRow_size w _ _) rfl rfl rfl
        exact ⟨hoff, by simp, .inr ⟨cap, sp, hh, hcap, hheap'⟩⟩
end Go.Sx
namespace Go.Proofs.Ythaigkamfnjfbaa
open Go.Sx
set_option maxRecDepth 100000
set_option maxHeartbeats 4000000
def prepChk (n : Net) (l : List Evt) (ticks lim : Int) : Int := if netChk n ≠ 0 then netChk n else if wi ticks 0 lim = false then 3 else evsChk n.inp lim l
theorem prepared_run (vN vS : Value) (n : Net) (vE : Value) (l : List Evt) (ticks lim : Int) (w : World) (hn : IsNet w vN vS n) (hr : RowsAt w vE 2 l.length (l.flatMap Evt.vals)) :
    Calls Try.prog 34 #[netV vN vS n, vE, .int .i64 ticks, .int .i64 lim] w fun e w' => e = .returned (.int .i64 (prepChk n l ticks lim)) ∧ Ext w w' := by
  have hpf : PF.oks Try.prog [(50, F3 fun n lo hi => .bool (wi n lo hi))] := ⟨nwithin_pure, trivial⟩
  have hc : ∀ L, Cx.ok ⟨Try.prog, tab, [(50, F3 fun n lo hi => .bool (wi n lo hi))], 34, Try.f34, [], w, L, none⟩ := fun L => ⟨tab_ok, hpf, Try.func34, mixed, fun _ h => by cases h⟩
  obtain ⟨h1, h2⟩ := hn
  obtain ⟨N, inp, S⟩ := n
  simp only at h1 h2
  have hrows : AllP (fun x : Value × Nat × Nat × List Value => RowsAt w x.1 x.2.1 x.2.2.1 x.2.2.2) [(vN, 8, N.length, N.flatMap Prm.vals), (vS, 4, S.length, S.flatMap Syn.vals), (vE, 2, l.length, l.flatMap Evt.vals)] := ⟨h1, h2, hr, trivial⟩
  refine Run.startW Try.func34 rfl _ hrows [.agg [.opq 0, ii inp, .opq 1], .opq 2, ii ticks, ii lim] [netV vN vS ⟨N, inp, S⟩, vE, .int .i64 ticks, .int .i64 lim] [(0, .rwin 8 N.length (N.flatMap Prm.vals)), (1, .rwin 4 S.length (S.flatMap Syn.vals)), (2, .rwin 2 l.length (l.flatMap Evt.vals))] 3 rfl rfl
    (by show [Value.agg [(SV.opq 0).conc _, .int .i64 inp, (SV.opq 1).conc _].toArray, (SV.opq 2).conc _, _, _] = _; rw [conc_rows hrows (k := 0) rfl, conc_rows hrows (k := 1) rfl, conc_rows hrows (k := 2) rfl]; rfl) (by simp [SV.scs, SV.sc]) rfl (Run.of_wpK (hc _) 1000 _ ?_)
  conv => whnf
  obtain ⟨ck, hck⟩ : ∃ ck, netChk ⟨N, inp, S⟩ = ck := ⟨_, rfl⟩
  refine Run.callE (g := 49) (vs := [.agg [.opq 0, ii inp, .opq 1]]) (caps := []) (ii ck) (fun ρ w1 hW => by
    rw [← hck]
    exact netCheck_run ((SV.opq 0).conc ρ) ((SV.opq 1).conc ρ) ⟨N, inp, S⟩ w1 ⟨hW.rowsAt rfl, hW.rowsAt rfl⟩) (ent _ _ Try.func49 (by kernel_rfl) rfl) rfl rfl rfl rfl rfl rfl rfl trivial ?_
  refine Run.of_wpK (hc _) 1000 _ ?_
  conv => whnf
  cases e1 : ck != 0
  case true =>
    conv => whnf
    have e1' : ck ≠ 0 := by simpa using e1
    exact ⟨fun ρ w' hW _ => ⟨by unfold prepChk; rw [hck, if_pos e1']; rfl, hW.toExt⟩⟩
  have e1' : ¬ ck ≠ 0 := by simpa using e1
  conv => whnf
  cases e2 : wi ticks 0 lim
  case false =>
    conv => whnf
    exact ⟨fun ρ w' hW _ => ⟨by unfold prepChk; rw [hck, if_neg e1', if_pos e2]; rfl, hW.toExt⟩⟩
  conv => whnf
  refine Run.callE (g := 51) (vs := [.agg [.opq 0, ii inp, .opq 1], .opq 2, ii lim]) (caps := []) (ii (evsChk inp lim l)) (fun ρ w1 hW => 
    nordered_run ((SV.opq 0).conc ρ) ((SV.opq 1).conc ρ) ⟨N, inp, S⟩ ((SV.opq 2).conc ρ) l lim w1 ⟨hW.rowsAt rfl, hW.rowsAt rfl⟩ (hW.rowsAt rfl)) (ent _ _ Try.func51 (by kernel_rfl) rfl) rfl rfl rfl rfl rfl rfl rfl trivial ?_
  obtain ⟨ek, hek⟩ : ∃ ek, evsChk inp lim l = ek := ⟨_, rfl⟩
  rw [hek]
  refine Run.of_wpK (hc _) 1000 _ ?_
  conv => whnf
  exact ⟨fun ρ w' hW _ => ⟨by unfold prepChk; rw [hck, if_neg e1', if_neg (by rw [e2]; decide), hek]; rfl, hW.toExt⟩⟩
set_option maxHeartbeats 8000000
/-- How many of the first events are of a tick. -/
def nAt (t : Int) : List Evt → Nat
  | [] => 0
  | x :: l => if x.tick = t then nAt t l + 1 else 0
theorem nAt_le (t : Int) : ∀ l : List Evt, nAt t l ≤ l.length
  | [] => Nat.le_refl _
  | x :: l => by
    unfold nAt
    have := nAt_le t l
    split
    · simp; omega
    · omega
theorem nAt_lt {t : Int} : ∀ {l : List Evt} {i : Nat}, i < nAt t l → ∃ h : i < l.length, l[i].tick = t
  | [], i, h => by simp [nAt] at h
  | x :: l, i, h => by
    unfold nAt at h
    split at h
    · rename_i e
      cases i with
      | zero => exact ⟨by simp, e⟩
      | succ i =>
        obtain ⟨h1, h2⟩ := nAt_lt (t := t) (l := l) (i := i) (by omega)
        exact ⟨by simpa using h1, by simpa using h2⟩
    · omega
theorem nAt_end {t : Int} : ∀ {l : List Evt} (h : nAt t l < l.length), l[nAt t l].tick ≠ t
  | [], h => by simp at h
  | x :: l, h => by
    unfold nAt at h
    split at h
    · rename_i e
      have h' : nAt t l < l.length := by simpa using h
      have := nAt_end h'
      simp only [nAt, if_pos e, List.getElem_cons_succ]
      exact this
    · rename_i e
      simp only [nAt, if_neg e, List.getElem_cons_zero]
      exact e
/-- What is left of the events behind some ticks. -/
def evR (l : List Evt) : Nat → List Evt
  | 0 => l
  | i + 1 => (evR l i).drop (nAt i (evR l i))
theorem evR_len (l : List Evt) : ∀ i, (evR l i).length ≤ l.length
  | 0 => Nat.le_refl _
  | i + 1 => by
    unfold evR
    rw [List.length_drop]
    have := evR_len l i
    omega
def idsT (l : List Evt) (j : Nat) : List Int := (l.take j).map (·.id)
theorem idsT_len {l : List Evt} {j : Nat} (h : j ≤ l.length) : (idsT l j).length = j := by simp [idsT]; omega
theorem idsT_succ {l : List Evt} {j : Nat} (h : j < l.length) : idsT l (j + 1) = idsT l j ++ [l[j].id] := by
  unfold idsT
  rw [← List.take_append_getElem h, List.map_append]; rfl
theorem drop_flat {e : Nat} {α : Type} {f : α → List Value} (hf : ∀ a, (f a).length = e) : ∀ (l : List α) (k : Nat), (l.flatMap f).drop (k * e) = (l.drop k).flatMap f
  | l, 0 => by simp
  | [], k + 1 => by simp
  | a :: l, k + 1 => by
    rw [List.flatMap_cons, List.drop_succ_cons, ← drop_flat hf l k, Nat.add_mul, Nat.one_mul, Nat.add_comm (k * e) e, ← List.drop_drop, List.drop_left' (hf a)]
theorem opF_sliceW {tab : Tab} {pf : PF} {T : Tm} {M : Mem} {n : Nat} {t : TypeId} {x : Operand} {lo : Option Operand} {ti : TI} {te : TypeId} {sz bytes b e m : Nat} {vs : List Value} (l : Nat) (ht : Sx.look tab t = some ti) (hs : ti.sh = .slc te sz bytes) (hx : ev T x = some (.opq b)) (hM : M b = some (.rwin e m vs)) (he : e = sz) (hlo : evO T lo = some (some (l : Int))) (hl : l ≤ m) :
    opF tab pf T M n (.slice t x lo none none) = some (.new (.opq n) (.rwin e (m - l) (vs.drop (l * e)))) := by
  subst he
  have hno : evO T none = some none := rfl
  simp only [opF, opSlice2, opSlice, ht, hs, hx, hM, hlo, hno, Nat.beq_refl]
  rw [decide_eq_true (p := 0 ≤ (l : Int) ∧ (l : Int) ≤ (m : Int)) ⟨by omega, by omega⟩]
  simp only [Int.toNat_natCast]
theorem ints_iv (l : List Int) : (l.map fun x => ii x) = (ints l).map .v := by simp [ints]
end Go.Proofs.Ythaigkamfnjfbaa
namespace Go.Sx
end Go.Sx
namespace Go.Proofs.Ythaigkamfnjfbaa
open Go.Sx
set_option maxRecDepth 100000
set_option maxHeartbeats 4000000
/-- The learner behind some ticks. -/
def trIn (l : List Evt) (i : Nat) : List Int := idsT (evR l i) (nAt i (evR l i))
/-- The spikes behind some ticks. -/
def spk (t : Int) (o : List Int) : List Evt := o.map fun a => ⟨t, a⟩
theorem spk_take {t : Int} {o : List Int} {j : Nat} (h : j < o.length) : spk t (o.take (j + 1)) = spk t (o.take j) ++ [⟨t, o[j]⟩] := by
  unfold spk
  rw [← List.take_append_getElem h, List.map_append]; rfl
theorem evts_v (l : List Evt) : l.flatMap Evt.cells = (l.flatMap Evt.vals).map .v := by
  induction l with
  | nil => rfl
  | cons a l ih => rw [List.flatMap_cons, List.flatMap_cons, List.map_append, ih]; rfl
theorem scs_evts (S : Nat → Prop) (l : List Evt) : SV.scs S (l.flatMap Evt.cells) := by rw [evts_v]; exact scs_v _ _
set_option maxHeartbeats 8000000
theorem opF_loadRow1 {tab : Tab} {pf : PF} {T : Tm} {M : Mem} {n : Nat} {t : TypeId} {x : Operand} {ti : TI} {j off e m : Nat} {l : List Int} {te : TypeId} (i : Nat) (ht : Sx.look tab t = some ti) (hx : ev T x = some (.ptr j off)) (hM : M j = some (.row e m (l.map fun x => ii x) te)) (hag : ti.sh.isAgg = false) (hoff : off = i) (hi : i < l.length) :
    opF tab pf T M n (.load t x) = some (.val none (ii l[i])) := by
  subst hoff
  exact opF_loadR1 off ht hx hM hag rfl (by simp [hi])
end Go.Proofs.Ythaigkamfnjfbaa
namespace Go.Sx
set_option maxRecDepth 100000
set_option maxHeartbeats 2000000
open Go
theorem WI.enterA {w0 w : World} {L : List (Nat × Nat)} {ρ : Env} {M : List (Nat × SObj)} {n : Nat} (hW : WI w0 L ρ (look M) (· < n) w) (r : Nat → Nat) (Mc : List (Nat × SObj)) (B : Nat) (is : List Nat) (keys : List Nat) (hkeys : Mc.map (·.1) = keys) (hinj : ∀ i ∈ keys, ∀ j ∈ keys, i ≠ j → r i ≠ r j)
    (hMc : AllP (fun x => x.1 < B ∧ x.2.sc (· < B) ∧ (∃ o, look M (r x.1) = some o ∧ Conv o (x.2.ren r)) ∧ (x.2.wnd = true ∨ x.1 ∈ is) ∧ (x.2.wnd = true → x.1 ∉ is)) Mc) (his : ∀ i ∈ is, i < B ∧ ∃ o, look Mc i = some o) :
    ∃ L', (∀ p ∈ L', p.1 ∈ is ∧ p.2 = ρ.s (r p.1) ∧ ∃ o, look M (r p.1) = some o ∧ o.occ ρ (r p.1)) ∧ WI w L' (ρ.ren r) (look Mc) (· < B) w := by
  classical
  let L' : List (Nat × Nat) := (is.filter fun i => decide (∃ o, look M (r i) = some o ∧ o.occ ρ (r i))).map fun i => (i, ρ.s (r i))
  have hL' : ∀ p ∈ L', p.1 ∈ is ∧ p.2 = ρ.s (r p.1) ∧ ∃ o, look M (r p.1) = some o ∧ o.occ ρ (r p.1) := by
    intro p hp
    obtain ⟨i, hi, rfl⟩ := List.mem_map.1 hp
    obtain ⟨h1, h2⟩ := List.mem_filter.1 hi
    exact ⟨h1, rfl, of_decide_eq_true h2⟩
  have hk : ∀ x ∈ Mc, x.1 ∈ keys := fun x hx => by rw [← hkeys]; exact List.mem_map.2 ⟨x, hx, rfl⟩
  refine ⟨L', hL', ?_⟩
  refine hW.again ((Ext.refl w).modF fun _ => False) r L' Mc B (fun p hp => ?_) (fun x hx => ?_) (fun x hx y hy h => hinj _ (hk x hx) _ (hk y hy) h)
  · obtain ⟨h1, h2, h3⟩ := hL' p hp
    obtain ⟨h4, o, h5⟩ := his p.1 h1
    exact ⟨h4, h2, ⟨_, look_mem h5, rfl⟩, h3⟩
  · obtain ⟨h1, h2, ⟨o, h3, h4⟩, h5, h6⟩ := hMc.mem x hx
    refine ⟨h1, h2, fun ho => ?_, o, h3, h4, ?_, fun hwd p hp he => h6 hwd (by rw [← he]; exact (hL' p hp).1)⟩
    · rcases h5 with h5 | h5
      · exfalso
        cases hx2 : x.2 <;> rw [hx2] at h5 ho <;> first | cases h5; done | exact ho.elim
      · refine ⟨(x.1, ρ.s (r x.1)), List.mem_map.2 ⟨x.1, List.mem_filter.2 ⟨h5, decide_eq_true ⟨o, h3, ?_⟩⟩, rfl⟩, rfl⟩
        rcases h4 with h4 | ⟨e, m, t, vs, _, _, h4⟩ | ⟨pk, nn, l, _, h4⟩
        · rw [← h4]; exact occ_ren.2 ho
        · have := (occ_ren (ρ := ρ) (r := r) (i := x.1) (o := x.2)).2 ho
          rw [h4] at this; exact this.elim
        · have := (occ_ren (ρ := ρ) (r := r) (i := x.1) (o := x.2)).2 ho
          rw [h4] at this; exact this.elim
    · cases o <;> simp [SObj.away]
/-- A call by a contract over told blocks. -/
theorem Run.callA {c : Cx} {T : List (Nat × SV)} {M : List (Nat × SObj)} {n : Nat} {D : List Deferred} {ops : Array Oper} {i : Nat} {r : List Nat} {k : List Item} {R : Ending → World → Prop} {o : Oper} {f : Operand} {args : Array Operand} {ts : Array TypeId}
    {fv : SV} {g : FuncId} {caps caps2 vs : List SV} {Mc : List (Nat × SObj)} {B : Nat} {is : List Nat} {v : SV} {M1 : List (Nat × SObj)} {n1 : Nat} (hspec : BSpec c.P g (vs ++ caps) Mc B is v M1 n1) (hg : Enters c.P g)
    (ho : get ops.toList i = some o) (hop : o.op = .call { callee := .value f, args := args, argTypes := ts }) (hw : wantS ops.toList (look T) o = some true) (hd : okD c.fn.ntmps o.dst = true)
    (hf : ev (look T) f = some fv) (hfv : calleeOf fv = some (g, caps2)) (vs2 : List SV) (hvs : evs (look T) args.toList = some vs2) (rn : Nat → Nat) (hvr : SV.rens rn (vs ++ caps) = vs2 ++ caps2) (hr : ∀ i, i < B → rn i < n) (keys : List Nat) (hkeys : Mc.map (·.1) = keys) (hinj : ∀ i ∈ keys, ∀ j ∈ keys, i ≠ j → rn i ≠ rn j) (hB1 : B ≤ n1)
    (hMc : AllP (fun x => x.1 < B ∧ x.2.sc (· < B) ∧ (∃ o, look M (rn x.1) = some o ∧ Conv o (x.2.ren rn)) ∧ (x.2.wnd = true ∨ x.1 ∈ is) ∧ (x.2.wnd = true → x.1 ∉ is)) Mc) (his : ∀ i ∈ is, i < B ∧ ∃ o, look Mc i = some o)
    (v2 : SV) (M2 : List (Nat × SObj)) (n2 : Nat) (hv2 : v2 = v.ren (shR rn B n)) (hn2 : n2 = n + (n1 - B)) (hM2 : AllP (fun x => (look M x.1 = some x.2 ∧ ∀ i ∈ is, rn i ≠ x.1) ∨ ∃ i o, shR rn B n i = x.1 ∧ look M1 i = some o ∧ x.2 = o.ren (shR rn B n) ∧ o.wnd = false) M2)
    (h : Run c ⟨putS T o.dst v2, M2, n2, D, .inRegion ops r :: k⟩ R) : Run c ⟨T, M, n, D, .inRegion ops (i :: r) :: k⟩ R := by
  subst hv2 hn2
  refine Run.callG ho hop hw hd hf hfv hvs hg (fun v' M' n' => v' = v.ren (shR rn B n) ∧ M' = M2 ∧ n' = n + (n1 - B)) (fun ρ w _ hW => ?_) (fun v' M' n' hp => ?_)
  · obtain ⟨L', hL', hWc⟩ := hW.enterA rn Mc B is keys hkeys hinj hMc his
    have hcall := hspec (ρ.ren rn) w L' hWc fun p hp => (hL' p hp).1
    rw [← concs_ren, hvr] at hcall
    refine hcall.mono fun e w' ⟨ρ', he, hv, hag, hW'⟩ => ?_
    obtain ⟨hW2, hag2⟩ := hW.mergeR hr hW' hB1 hag (fun p hp => ⟨(his _ (hL' p hp).1).1, (hL' p hp).2.2⟩) M2 (fun x hx => by
      rcases hM2.mem x hx with ⟨h1, h2⟩ | h1
      · exact .inl ⟨h1, fun p hp => h2 _ (hL' p hp).1⟩
      · exact .inr h1)
    refine ⟨ρ.join B n ρ', _, _, _, ?_, hag2, by omega, ?_, hW2, rfl, rfl, rfl⟩
    · rw [he, conc_ren, Env.join_renR hr hag]
    · refine SV.sc_ren (fun j (hj : j < n1) => ?_) v hv
      show shR rn B n j < n + (n1 - B)
      rcases Nat.lt_or_ge j B with h | h
      · rw [shR_lt h]; have := hr j h; omega
      · rw [shR_ge h]; omega
  · obtain ⟨rfl, rfl, rfl⟩ := hp; exact h
set_option maxHeartbeats 4000000
set_option maxHeartbeats 2000000
theorem Run.trimH {c : Cx} {T T' : List (Nat × SV)} {M M' : List (Nat × SObj)} {n n' : Nat} {D : List Deferred} {todo : List Item} {R : Ending → World → Prop} (h : Run c ⟨T', M', n', D, todo⟩ R) (hT : AllP (fun x => look T x.1 = some x.2 ∧ x.2.sc (· < n')) T')
    (hM : AllP (fun x => look M x.1 = some x.2 ∧ x.1 < n' ∧ x.2.sc (· < n')) M') (hL : ∀ p ∈ c.L, p.1 < n') : Run c ⟨T, M, n, D, todo⟩ R := Run.trim n' hT hM hL h
theorem Run.trimQH {c : Cx} {T T' : List (Nat × SV)} {M M' : List (Nat × SObj)} {n n' : Nat} {D : List Deferred} {todo : List Item} {R : Ending → World → Prop} (h : Run c ⟨T', M', n', D, todo⟩ R) (r : Nat → Nat) (hinj : ∀ i, i < n' → ∀ j, j < n' → i ≠ j → r i ≠ r j) (hT : AllP (fun x => look T x.1 = some (x.2.ren r) ∧ x.2.sc (· < n')) T')
    (hM : AllP (fun x => look M (r x.1) = some (x.2.ren r) ∧ x.1 < n' ∧ x.2.sc (· < n')) M') (hL : ∀ p ∈ c.L, r p.1 = p.1 ∧ p.1 < n') : Run c ⟨T, M, n, D, todo⟩ R := Run.trimQ r n' hinj hT hM hL h
theorem allP_map {α β : Type} {f g : α → β} : ∀ {l : List α}, l.map f = l.map g → AllP (fun x => f x = g x) l
  | [], _ => trivial
  | a :: l, h => by
    simp only [List.map_cons, List.cons.injEq] at h
    exact ⟨h.1, allP_map h.2⟩
theorem allP_and {α : Type} {p q : α → Prop} : ∀ {l : List α}, AllP p l → AllP q l → AllP (fun x => p x ∧ q x) l
  | [], _, _ => trivial
  | _ :: _, h, k => ⟨⟨h.1, k.1⟩, allP_and h.2 k.2⟩
theorem allP_imp {α : Type} {p q : α → Prop} (hpq : ∀ x, p x → q x) : ∀ {l : List α}, AllP p l → AllP q l
  | [], _ => trivial
  | _ :: _, h => ⟨hpq _ h.1, allP_imp hpq h.2⟩
theorem allP_app {α : Type} {p : α → Prop} : ∀ {l l' : List α}, AllP p l → AllP p l' → AllP p (l ++ l')
  | [], _, _, h => h
  | _ :: _, _, h, k => ⟨h.1, allP_app h.2 k⟩
theorem allP_of {α : Type} {p : α → Prop} : ∀ {l : List α}, (∀ x ∈ l, p x) → AllP p l
  | [], _ => trivial
  | a :: _, h => ⟨h a (by simp), allP_of fun x hx => h x (by simp [hx])⟩
/-- What is told is inside some bound. -/
def In (n : Nat) (M : List (Nat × SObj)) : Prop := AllP (fun x => x.1 < n ∧ x.2.sc (· < n)) M
section
variable {c : Cx} {T T' : List (Nat × SV)} {M M' : List (Nat × SObj)} {n n' : Nat} {D : List Deferred} {todo : List Item} {R : Ending → World → Prop}
/-- A call; what is kept is listed apart from what is new. -/
theorem Run.callK {ops : Array Oper} {i : Nat} {r : List Nat} {k : List Item} {o : Oper} {f : Operand} {args : Array Operand} {ts : Array TypeId}
    {fv : SV} {g : FuncId} {caps2 vs : List SV} {Mc : List (Nat × SObj)} {B : Nat} {is : List Nat} {v : SV} {M1 : List (Nat × SObj)} {n1 : Nat} (hspec : BSpec c.P g vs Mc B is v M1 n1) (hg : Enters c.P g)
    (ho : get ops.toList i = some o) (hop : o.op = .call { callee := .value f, args := args, argTypes := ts }) (hw : wantS ops.toList (look T) o = some true) (hd : okD c.fn.ntmps o.dst = true)
    (hf : ev (look T) f = some fv) (hfv : calleeOf fv = some (g, caps2)) (hc2 : caps2 = []) (vs2 : List SV) (hvs : evs (look T) args.toList = some vs2) (rn : Nat → Nat) (hvr : SV.rens rn vs = vs2) (hr : ∀ i, i < B → rn i < n) (keys : List Nat) (hkeys : Mc.map (·.1) = keys) (hinj : ∀ i ∈ keys, ∀ j ∈ keys, i ≠ j → rn i ≠ rn j) (hB1 : Nat.ble B n1 = true)
    (hA : In B Mc) (hW : (Mc.all fun x => x.2.wnd != is.contains x.1) = true) (hC : AllP (fun x => ∃ o, look M (rn x.1) = some o ∧ Conv o (x.2.ren rn)) Mc) (his : ∀ i ∈ is, i ∈ keys)
    (v2 : SV) (News Keep : List (Nat × SObj)) (n2 : Nat) (hv2 : v2 = v.ren (shR rn B n)) (hn2 : n2 = n + (n1 - B)) (hN : AllP (fun x => ∃ i o, shR rn B n i = x.1 ∧ look M1 i = some o ∧ x.2 = o.ren (shR rn B n) ∧ o.wnd = false) News)
    (hK1 : Keep.map (fun x => look M x.1) = Keep.map fun x => some x.2) (hK2 : (Keep.all fun x => !((is.map rn).contains x.1)) = true)
    (h : Run c ⟨putS T o.dst v2, News ++ Keep, n2, D, .inRegion ops r :: k⟩ R) : Run c ⟨T, M, n, D, .inRegion ops (i :: r) :: k⟩ R := by
  subst hc2
  have hAm := AllP.mem hA
  refine Run.callA (caps := []) (caps2 := []) (vs := vs) (by rw [List.append_nil]; exact hspec) hg ho hop hw hd hf hfv vs2 hvs rn (by rw [List.append_nil, List.append_nil]; exact hvr) hr keys hkeys hinj (Nat.le_of_ble_eq_true hB1)
    (allP_of fun x hx => ?_) (fun i hi => ?_) v2 (News ++ Keep) n2 hv2 hn2 (allP_app (allP_imp (fun x hx => .inr hx) hN) (allP_of fun x hx => .inl ⟨(allP_map hK1).mem x hx, fun i hi he => ?_⟩)) h
  · obtain ⟨h1, h2⟩ := hAm x hx
    have h3 := List.all_eq_true.1 hW x hx
    refine ⟨h1, h2, hC.mem x hx, ?_, fun hw hm => ?_⟩
    · cases hw : x.2.wnd
      · right
        rw [hw] at h3
        simpa using h3
      · exact .inl rfl
    · rw [hw] at h3
      simp at h3
      exact h3 hm
  · have hm := his i hi
    rw [← hkeys] at hm
    obtain ⟨x, hx, rfl⟩ := List.mem_map.1 hm
    refine ⟨(hAm x hx).1, ?_⟩
    exact look_some_of_mem hx
  · have h3 := List.all_eq_true.1 hK2 x hx
    simp at h3
    exact h3 i hi he
end
end Go.Sx
namespace Go.Proofs.Ythaigkamfnjfbaa
open Go.Sx
set_option maxRecDepth 100000
set_option maxHeartbeats 2000000
theorem sin_pure : Pure Try.prog 17 (F3 fun n lo hi => .bool (wi n lo hi)) := Pure.of3 (ent _ _ Try.func17 (by kernel_rfl) rfl) fun n lo hi w => by
  refine Run.start0 (tab := tab) (pf := []) (cuts := []) mixed tab_ok trivial Try.func17 rfl [ii n, ii lo, ii hi] 100 (by simp [SV.scs, SV.sc]) rfl ?_
  conv => whnf
  cases h : decide (lo ≤ n)
  all_goals
    conv => whnf
    exact ⟨fun ρ w' hW _ => ⟨by unfold wi; rw [h]; rfl, hW.toExt⟩⟩
theorem min_pure : Pure Try.prog 29 (F3 fun n lo hi => .bool (wi n lo hi)) := Pure.of3 (ent _ _ Try.func29 (by kernel_rfl) rfl) fun n lo hi w => by
  refine Run.start0 (tab := tab) (pf := []) (cuts := []) mixed tab_ok trivial Try.func29 rfl [ii n, ii lo, ii hi] 100 (by simp [SV.scs, SV.sc]) rfl ?_
  conv => whnf
  cases h : decide (lo ≤ n)
  all_goals
    conv => whnf
    exact ⟨fun ρ w' hW _ => ⟨by unfold wi; rw [h]; rfl, hW.toExt⟩⟩
abbrev pfs : PF := [(17, F3 fun n lo hi => .bool (wi n lo hi))]
theorem pfs_ok : PF.oks Try.prog pfs := ⟨sin_pure, trivial⟩
theorem flat_one : ∀ l : List Int, l.flatMap (fun x : Int => [Value.int .i64 x]) = ints l
  | [] => rfl
  | a :: l => by rw [List.flatMap_cons, flat_one l]; rfl
/-- A camera. -/
structure Cam where
  wide : Int
  high : Int
  step : Int
def Cam.vals (c : Cam) : List Value := [.int .i64 c.wide, .int .i64 c.high, .int .i64 c.step]
structure CamOK (c : Cam) : Prop where
  w0 : 1 ≤ c.wide
  w1 : c.wide ≤ 32
  h0 : 1 ≤ c.high
  h1 : c.high ≤ 32
  s0 : 1 ≤ c.step
  s1 : c.step ≤ 128
def Cam.pix (c : Cam) : Nat := (c.wide * c.high).toNat
theorem CamOK.pix {c : Cam} (h : CamOK c) : (c.pix : Int) = c.wide * c.high ∧ 1 ≤ c.pix ∧ c.pix ≤ 1024 := by
  have a1 := h.w0; have a2 := h.w1; have a3 := h.h0; have a4 := h.h1
  have h1 : c.wide * c.high ≤ 32 * 32 := Int.mul_le_mul a2 a4 (by omega) (by decide)
  have h0 : 1 * 1 ≤ c.wide * c.high := Int.mul_le_mul a1 a3 (by decide) (by omega)
  unfold Cam.pix
  omega
theorem camCheck_run (c : Cam) (h : CamOK c) (w : World) : Calls Try.prog 6 #[.agg c.vals.toArray] w fun e w' => e = .returned (.int .i64 0) ∧ Ext w w' := by
  obtain ⟨wd, hg, sp⟩ := c
  have e1 : wi wd 1 32 = true := wi_iff.2 ⟨h.w0, h.w1⟩
  have e2 : wi hg 1 32 = true := wi_iff.2 ⟨h.h0, h.h1⟩
  have e3 : wi sp 1 128 = true := wi_iff.2 ⟨h.s0, h.s1⟩
  obtain ⟨f, hf⟩ : ∃ f, wi = f := ⟨_, rfl⟩
  have hpf : PF.oks Try.prog [(17, F3 fun n lo hi => .bool (f n lo hi))] := by rw [← hf]; exact pfs_ok
  rw [hf] at e1 e2 e3
  refine Run.start0 (tab := tab) (pf := [(17, F3 fun n lo hi => .bool (f n lo hi))]) (cuts := []) mixed tab_ok hpf Try.func6 rfl [.agg [ii wd, ii hg, ii sp]] 1000 (by simp [SV.scs, SV.sc]) rfl ?_
  conv => whnf
  rw [e1]
  conv => whnf
  rw [e2]
  conv => whnf
  rw [e3]
  conv => whnf
  exact ⟨fun ρ w' hW _ => ⟨rfl, hW.toExt⟩⟩
theorem pixels_run (c : Cam) (h : CamOK c) (w : World) : Calls Try.prog 18 #[.agg c.vals.toArray] w fun e w' => e = .returned (.int .i64 (c.pix : Int)) ∧ Ext w w' := by
  have hp := h.pix
  obtain ⟨wd, hg, sp⟩ := c
  refine Run.start0 (tab := tab) (pf := []) (cuts := []) mixed tab_ok trivial Try.func18 rfl [.agg [ii wd, ii hg, ii sp]] 1000 (by simp [SV.scs, SV.sc]) rfl ?_
  conv => whnf
  refine ⟨fun ρ w' hW _ => ⟨?_, hW.toExt⟩⟩
  have : W (wd * hg) = wd * hg := by
    have := hp.1
    exact W_id (by simp only at this; omega) (by simp only at this; omega)
  show Ending.returned (.int .i64 (W (wd * hg))) = _
  rw [this, hp.1]
/-- Whether a number is outside of bounds. -/
theorem outside1_spec (x lo hi : Int) : BSpec Try.prog 39 [ii x, .ptr 0 0, .ptr 1 0] [(0, .cells [ii lo] 3), (1, .cells [ii hi] 3)] 2 [0, 1] (.v (.bool (!(wi x lo hi)))) [(0, .cells [ii lo] 3), (1, .cells [ii hi] 3)] 2 := by
  obtain ⟨f, hf⟩ : ∃ f, wi = f := ⟨_, rfl⟩
  have hpf : PF.oks Try.prog [(17, F3 fun n lo hi => .bool (f n lo hi))] := by rw [← hf]; exact pfs_ok
  rw [hf]
  have hc : ∀ w L' rd, (∀ p, rd = some p → p ∈ L') → Cx.ok ⟨Try.prog, tab, [(17, F3 fun n lo hi => .bool (f n lo hi))], 39, Try.f39, [], w, L', rd⟩ := fun w L' rd h => ⟨tab_ok, hpf, Try.func39, mixed, h⟩
  refine BSpec.start (tab := tab) (pf := [(17, F3 fun n lo hi => .bool (f n lo hi))]) (cuts := []) Try.func39 rfl ⟨trivial, (show 0 < 2 by decide), (show 1 < 2 by decide), trivial⟩ rfl fun w L0 plp hL hLB hcov => Run.of_wpK (hc w L0 none (fun _ h => by cases h)) 100 _ ?_
  conv => whnf
  exact SpecR.intro 2 (by decide) hLB (by decide) hcov rfl rfl trivial ⟨⟨rfl, by omega, by simp [SObj.sc, SV.scs, SV.sc]⟩, ⟨rfl, by omega, by simp [SObj.sc, SV.scs, SV.sc]⟩, trivial⟩
/-- No element is outside. -/
theorem indexFunc_spec (l : List Int) (lo up : Int) (h : ∀ x ∈ l, wi x lo up = true) (hl : l.length ≤ 1000000) : BSpec Try.prog 38 [.opq 2, .fn 39 [.ptr 0 0, .ptr 1 0]] [(0, .cells [ii lo] 3), (1, .cells [ii up] 3), (2, .rwin 1 l.length (ints l))] 3 [0, 1] (ii (-1)) [(0, .cells [ii lo] 3), (1, .cells [ii up] 3)] 3 := by
  have hc : ∀ w L' rd, (∀ p, rd = some p → p ∈ L') → Cx.ok ⟨Try.prog, tab, [], 38, Try.f38, [], w, L', rd⟩ := fun w L' rd h => ⟨tab_ok, trivial, Try.func38, mixed, h⟩
  refine BSpec.start (tab := tab) (pf := []) (cuts := []) Try.func38 rfl ⟨(show 2 < 3 by decide), ⟨(show 0 < 3 by decide), (show 1 < 3 by decide), trivial⟩, trivial⟩ rfl fun w L0 plp hL hLB hcov => Run.of_wpK (hc w L0 none (fun _ h => by cases h)) 100 _ ?_
  generalize hRR : SpecR _ _ _ _ _ _ = RR
  conv => whnf
  refine Run.trim (T' := [(0, .opq 2), (1, .fn 39 [.ptr 0 0, .ptr 1 0]), (6, .opq 2), (7, ii (l.length : Int)), (8, ii (((0 : Nat) : Nat) : Int))]) (M' := [(3, .pin plp), (0, .cells [ii lo] 3), (1, .cells [ii up] 3), (2, .rwin 1 l.length (ints l))]) 4 ⟨⟨rfl, (show 2 < 4 by decide)⟩, ⟨rfl, (show 0 < 4 by decide), (show 1 < 4 by decide), trivial⟩, ⟨rfl, (show 2 < 4 by decide)⟩, ⟨rfl, trivial⟩, ⟨rfl, trivial⟩, trivial⟩ ⟨⟨rfl, by omega, fun p hp => Nat.lt_of_lt_of_le (hcov.1 p hp) (show 3 ≤ 4 by decide)⟩, ⟨rfl, by omega, by simp [SObj.sc, SV.scs, SV.sc]⟩, ⟨rfl, by omega, by simp [SObj.sc, SV.scs, SV.sc]⟩, ⟨rfl, by omega, trivial⟩, trivial⟩ (fun p hp => by have := hLB p hp; omega) ?_
  refine Run.upToJ (T := fun i => [(0, .opq 2), (1, .fn 39 [.ptr 0 0, .ptr 1 0]), (6, .opq 2), (7, ii (l.length : Int)), (8, ii ((i : Nat) : Int))]) (M := fun i => [(3, .pin plp), (0, .cells [ii lo] 3), (1, .cells [ii up] 3), (2, .rwin 1 l.length (ints l))]) (fun _ => True) (l.length) (trivial) ?_ ?_
  · intro i hi hJ ih
    refine Run.of_wpK (hc w L0 none (fun _ h => by cases h)) 1000 _ ?_
    conv => whnf
    rw [decide_eq_true (show ((i : Nat) : Int) < (l.length : Int) by omega)]
    conv => whnf
    refine ⟨by omega, ?_⟩
    conv => whnf
    rw [opF_loadWf (f := fun x : Int => [Value.int .i64 x]) (l := l) (c := .int .i64 l[i]) i 0 rfl rfl (by rw [show l.flatMap (fun x : Int => [Value.int .i64 x]) = ints l from flat_one l]; rfl) rfl (fun _ => rfl) (by rw [idx_nat]; rfl) hi (by decide) rfl]
    conv => whnf
    have hspec := outside1_spec l[i] lo up
    rw [h _ (List.getElem_mem hi)] at hspec
    refine Run.callP (vs := [ii l[i]]) (caps := [.ptr 0 0, .ptr 1 0]) hspec (ent _ _ Try.func39 (by kernel_rfl) rfl) rfl rfl rfl rfl rfl rfl rfl (by decide) (by decide)
      ⟨⟨by omega, by simp [SObj.sc, SV.scs, SV.sc], ⟨_, rfl, Conv.refl _⟩, .inr (by simp), fun h => by cases h⟩, ⟨by omega, by simp [SObj.sc, SV.scs, SV.sc], ⟨_, rfl, Conv.refl _⟩, .inr (by simp), fun h => by cases h⟩, trivial⟩ (fun i hi => by
        have hq2 : i = 0 ∨ i = 1 := by simpa using hi
        rcases hq2 with rfl | rfl <;> exact ⟨by omega, _, rfl⟩) (.v (.bool (!true))) [(0, .cells [ii lo] 3), (1, .cells [ii up] 3), (3, .pin plp), (2, .rwin 1 l.length (ints l))] 4 rfl rfl
      ⟨.inr ⟨0, _, rfl, rfl, rfl, rfl⟩, .inr ⟨1, _, rfl, rfl, rfl, rfl⟩, .inl ⟨rfl, by simp⟩, .inl ⟨rfl, by simp⟩, trivial⟩ ?_
    refine Run.of_wpK (hc w L0 none (fun _ h => by cases h)) 1000 _ ?_
    conv => whnf
    exact Run.trim (T' := [(0, .opq 2), (1, .fn 39 [.ptr 0 0, .ptr 1 0]), (6, .opq 2), (7, ii (l.length : Int)), (8, ii (((i + 1 : Nat) : Nat) : Int))]) (M' := [(3, .pin plp), (0, .cells [ii lo] 3), (1, .cells [ii up] 3), (2, .rwin 1 l.length (ints l))]) 4 ⟨⟨rfl, (show 2 < 4 by decide)⟩, ⟨rfl, (show 0 < 4 by decide), (show 1 < 4 by decide), trivial⟩, ⟨rfl, (show 2 < 4 by decide)⟩, ⟨rfl, trivial⟩, ⟨congrArg some (congrArg ii (wrap_succ (by omega))), trivial⟩, trivial⟩ ⟨⟨rfl, by omega, fun p hp => Nat.lt_of_lt_of_le (hcov.1 p hp) (show 3 ≤ 4 by decide)⟩, ⟨rfl, by omega, by simp [SObj.sc, SV.scs, SV.sc]⟩, ⟨rfl, by omega, by simp [SObj.sc, SV.scs, SV.sc]⟩, ⟨rfl, by omega, trivial⟩, trivial⟩ (fun p hp => by have := hLB p hp; omega) (ih (trivial))
  · intro hJ
    refine Run.of_wpK (hc w L0 none (fun _ h => by cases h)) 1000 _ ?_
    conv => whnf
    rw [decide_eq_false (show ¬ ((l.length : Nat) : Int) < (l.length : Int) by omega)]
    conv => whnf
    rw [← hRR]
    exact SpecR.intro 4 (by decide) hLB (by decide) hcov rfl rfl trivial ⟨⟨rfl, by omega, by simp [SObj.sc, SV.scs, SV.sc]⟩, ⟨rfl, by omega, by simp [SObj.sc, SV.scs, SV.sc]⟩, trivial⟩
/-- No element is outside. -/
theorem containsFunc_spec (l : List Int) (lo up : Int) (h : ∀ x ∈ l, wi x lo up = true) (hl : l.length ≤ 1000000) : BSpec Try.prog 19 [.opq 2, .fn 39 [.ptr 0 0, .ptr 1 0]] [(0, .cells [ii lo] 3), (1, .cells [ii up] 3), (2, .rwin 1 l.length (ints l))] 3 [0, 1] (.v (.bool false)) [(0, .cells [ii lo] 3), (1, .cells [ii up] 3)] 3 := by
  have hc : ∀ w L' rd, (∀ p, rd = some p → p ∈ L') → Cx.ok ⟨Try.prog, tab, [], 19, Try.f19, [], w, L', rd⟩ := fun w L' rd h => ⟨tab_ok, trivial, Try.func19, mixed, h⟩
  refine BSpec.start (tab := tab) (pf := []) (cuts := []) Try.func19 rfl ⟨(show 2 < 3 by decide), ⟨(show 0 < 3 by decide), (show 1 < 3 by decide), trivial⟩, trivial⟩ rfl fun w L0 plp hL hLB hcov => Run.of_wpK (hc w L0 none (fun _ h => by cases h)) 100 _ ?_
  generalize hRR : SpecR _ _ _ _ _ _ = RR
  conv => whnf
  refine Run.callP (vs := [.opq 2, .fn 39 [.ptr 0 0, .ptr 1 0]]) (caps := []) (indexFunc_spec l lo up h hl) (ent _ _ Try.func38 (by kernel_rfl) rfl) rfl rfl rfl rfl rfl rfl rfl (by decide) (by decide)
    ⟨⟨by omega, by simp [SObj.sc, SV.scs, SV.sc], ⟨_, rfl, Conv.refl _⟩, .inr (by simp), fun h => by cases h⟩, ⟨by omega, by simp [SObj.sc, SV.scs, SV.sc], ⟨_, rfl, Conv.refl _⟩, .inr (by simp), fun h => by cases h⟩, ⟨by omega, trivial, ⟨_, rfl, Conv.refl _⟩, .inl rfl, fun _ => by simp⟩, trivial⟩ (fun i hi => by
      have hq2 : i = 0 ∨ i = 1 := by simpa using hi
      rcases hq2 with rfl | rfl <;> exact ⟨by omega, _, rfl⟩) (ii (-1)) [(0, .cells [ii lo] 3), (1, .cells [ii up] 3), (3, .pin plp)] 4 rfl rfl
    ⟨.inr ⟨0, _, rfl, rfl, rfl, rfl⟩, .inr ⟨1, _, rfl, rfl, rfl, rfl⟩, .inl ⟨rfl, by simp⟩, trivial⟩ ?_
  refine Run.of_wpK (hc w L0 none (fun _ h => by cases h)) 1000 _ ?_
  conv => whnf
  rw [← hRR]
  exact SpecR.intro 4 (by decide) hLB (by decide) hcov rfl rfl trivial ⟨⟨rfl, by omega, by simp [SObj.sc, SV.scs, SV.sc]⟩, ⟨rfl, by omega, by simp [SObj.sc, SV.scs, SV.sc]⟩, trivial⟩
/-- A frame without error. -/
structure FrameOK (c : Cam) (l : List Int) : Prop where
  len : l.length = c.pix
  lev : ∀ x ∈ l, 0 ≤ x ∧ x ≤ 255
theorem outside_run (lo up : Int) : BSpec Try.prog 20 [ii lo, ii up] [] 0 [] (.fn 39 [.ptr 0 0, .ptr 1 0]) [(0, .cells [ii lo] 3), (1, .cells [ii up] 3)] 2 := by
  have hc : ∀ w L' rd, (∀ p, rd = some p → p ∈ L') → Cx.ok ⟨Try.prog, tab, [], 20, Try.f20, [], w, L', rd⟩ := fun w L' rd h => ⟨tab_ok, trivial, Try.func20, mixed, h⟩
  refine BSpec.start (tab := tab) (pf := []) (cuts := []) Try.func20 rfl ⟨trivial, trivial, trivial⟩ rfl fun w L0 plp hL hLB hcov => Run.of_wpK (hc w L0 none (fun _ h => by cases h)) 100 _ ?_
  conv => whnf
  exact SpecR.intro 1 (by decide) hLB (by decide) hcov rfl rfl ⟨(show 0 < 2 by decide), (show 1 < 2 by decide), trivial⟩ ⟨⟨rfl, by omega, by simp [SObj.sc, SV.scs, SV.sc]⟩, ⟨rfl, by omega, by simp [SObj.sc, SV.scs, SV.sc]⟩, trivial⟩
theorem frame_run (c : Cam) (h : CamOK c) (v : Value) (l : List Int) (hl : FrameOK c l) (w : World) (hr : RowsAt w v 1 l.length (ints l)) : Calls Try.prog 7 #[.agg c.vals.toArray, v] w fun e w' => e = .returned (.int .i64 0) ∧ Ext w w' := by
  have hp := h.pix
  have hw : ∀ x ∈ l, wi x 0 255 = true := fun x hx => wi_iff.2 (hl.lev x hx)
  have hlen := hl.len
  have hc : ∀ w L' rd, (∀ p, rd = some p → p ∈ L') → Cx.ok ⟨Try.prog, tab, [], 7, Try.f7, [], w, L', rd⟩ := fun w L' rd h => ⟨tab_ok, trivial, Try.func7, mixed, h⟩
  have hrows : AllP (fun x : Value × Nat × Nat × List Value => RowsAt w x.1 x.2.1 x.2.2.1 x.2.2.2) [(v, 1, l.length, ints l)] := ⟨hr, trivial⟩
  refine Run.startW (tab := tab) (pf := []) (cuts := []) Try.func7 rfl _ hrows [.agg [ii c.wide, ii c.high, ii c.step], .opq 0] [.agg c.vals.toArray, v] [(0, .rwin 1 l.length (ints l))] 1 rfl rfl (by show [_, (SV.opq 0).conc _] = _; rw [conc_rows hrows (k := 0) rfl]; rfl) (by simp [SV.scs, SV.sc]) rfl (Run.of_wpK (hc w [] none (fun _ h => by cases h)) 100 _ ?_)
  conv => whnf
  refine Run.callE (g := 18) (vs := [.agg [ii c.wide, ii c.high, ii c.step]]) (caps := []) (ii (c.pix : Int)) (fun ρ w1 hW => pixels_run c h w1) (ent _ _ Try.func18 (by kernel_rfl) rfl) rfl rfl rfl rfl rfl rfl rfl trivial ?_
  refine Run.of_wpK (hc w [] none (fun _ h => by cases h)) 1000 _ ?_
  conv => whnf
  rw [← hlen, show ((l.length : Int) != (l.length : Int)) = false by simp]
  conv => whnf
  refine Run.callP (vs := [ii 0, ii 255]) (caps := []) (outside_run 0 255) (ent _ _ Try.func20 (by kernel_rfl) rfl) rfl rfl rfl rfl rfl rfl rfl (by decide) (by decide)
    trivial (fun i hi => by cases hi) (.fn 39 [.ptr 2 0, .ptr 3 0]) [(2, .cells [ii 0] 3), (3, .cells [ii 255] 3), (0, .rwin 1 l.length (ints l))] 4 rfl rfl
    ⟨.inr ⟨0, _, rfl, rfl, rfl, rfl⟩, .inr ⟨1, _, rfl, rfl, rfl, rfl⟩, .inl ⟨rfl, by simp⟩, trivial⟩ ?_
  refine Run.of_wpK (hc w [] none (fun _ h => by cases h)) 1000 _ ?_
  conv => whnf
  refine Run.callK (containsFunc_spec l 0 255 hw (by omega)) (ent _ _ Try.func19 (by kernel_rfl) rfl) rfl rfl rfl rfl rfl rfl rfl [.opq 0, .fn 39 [.ptr 2 0, .ptr 3 0]] rfl (rq [(0, 2), (1, 3), (2, 0), (3, 1)]) rfl (fun q hq => by have inv : ∀ q, q < 3 → rq [(0, 2), (1, 3), (2, 0), (3, 1)] q < 4 := (by decide); exact inv q hq) [0, 1, 2] rfl (by decide) rfl
    ⟨⟨by omega, by simp [SObj.sc, SV.scs, SV.sc]⟩, ⟨by omega, by simp [SObj.sc, SV.scs, SV.sc]⟩, ⟨by omega, trivial⟩, trivial⟩ rfl ⟨⟨_, rfl, Conv.refl _⟩, ⟨_, rfl, Conv.refl _⟩, ⟨_, rfl, Conv.refl _⟩, trivial⟩ (by decide)
    (.v (.bool false)) [(2, .cells [ii 0] 3), (3, .cells [ii 255] 3)] [] 4 rfl rfl ⟨⟨0, _, rfl, rfl, rfl, rfl⟩, ⟨1, _, rfl, rfl, rfl, rfl⟩, trivial⟩ rfl rfl ?_
  refine Run.of_wpK (hc w [] none (fun _ h => by cases h)) 1000 _ ?_
  conv => whnf
  exact ⟨fun ρ w' hW _ => ⟨rfl, hW.toExt⟩⟩
end Go.Proofs.Ythaigkamfnjfbaa
namespace Go.Sx
set_option maxRecDepth 100000
set_option maxHeartbeats 4000000
open Go
structure LinExt (ops : Array Oper) (l : List Nat) : Prop where
  nd : l.Nodup
  mem : ∀ i, i ∈ l ↔ i < ops.size
  dep : ∀ p i r, l = p ++ i :: r → ∀ o e, ops[i]? = some o → e ∈ o.after → Region.binds .any e = true → e.on ∈ p
theorem ready_some {ops : Array Oper} {listed : Array Bool} (hlow : ∀ i o e, ops[i]? = some o → e ∈ o.after → Region.binds .any e = true → e.on < i) :
    ∀ i, i < ops.size → listed.getD i true = false → listed.size = ops.size → Region.ready .any ops listed ≠ [] := by
  intro i
  induction i using Nat.strongRecOn with
  | ind i ih =>
    intro h1 h2 hs
    by_cases hd : Due ops listed i
    · exact fun h => by have := mem_ready.2 ⟨h1, h2, hd⟩; rw [h] at this; cases this
    · refine Classical.byContradiction fun hcon => hd fun o e ho he hb => ?_
      have hlt := hlow i o e ho he hb
      have hl : e.on < listed.size := by omega
      cases hg : listed.getD e.on false with
      | true => rfl
      | false =>
        refine absurd (fun h => hcon fun h' => h h') (fun h => h (ih e.on hlt (by omega) ?_ hs))
        simp only [Array.getD_eq_getD_getElem?, Array.getElem?_eq_getElem hl, Option.getD_some] at hg ⊢
        exact hg
theorem go_ext {ops : Array Oper} (hlow : ∀ i o e, ops[i]? = some o → e ∈ o.after → Region.binds .any e = true → e.on < i) : ∀ (fuel t : Nat) (listed : Array Bool) (u : List Nat), listed.size = ops.size → (∀ i, i < ops.size → listed.getD i true = false → i ∈ u) → u.length ≤ fuel →
    (Region.linearise.go .any ops fuel t listed []).Nodup ∧ (∀ i, i ∈ Region.linearise.go .any ops fuel t listed [] ↔ i < ops.size ∧ listed.getD i true = false) ∧
    (∀ p i r, Region.linearise.go .any ops fuel t listed [] = p ++ i :: r → ∀ o e, ops[i]? = some o → e ∈ o.after → Region.binds .any e = true → e.on ∈ p ∨ listed.getD e.on false = true)
  | 0, t, listed, u, hs, hu, hf => by
    have hnil : Region.linearise.go .any ops 0 t listed [] = [] := rfl
    rw [hnil]
    refine ⟨List.nodup_nil, fun i => ⟨fun h => (by cases h), fun ⟨h1, h2⟩ => ?_⟩, fun p i r h => by simp at h⟩
    have := hu i h1 h2
    rw [List.length_eq_zero_iff.1 (Nat.le_zero.1 hf)] at this; exact this
  | fuel + 1, t, listed, u, hs, hu, hf => by
    rw [go_step]
    by_cases hr : Region.ready .any ops listed = []
    · rw [hr]
      show ([] : List Nat).Nodup ∧ _
      refine ⟨List.nodup_nil, fun i => ⟨fun h => (by cases h), fun ⟨h1, h2⟩ => ?_⟩, fun p i r h => ?_⟩
      · exact absurd hr (ready_some hlow i h1 h2 hs)
      · have h : ([] : List Nat) = p ++ i :: r := h
        simp at h
    · obtain ⟨i, hi, hir⟩ := pick_ready (ops := ops) (listed := listed) t hr
      obtain ⟨h1, h2, h3⟩ := mem_ready.1 hir
      rw [hi]
      have ih := go_ext hlow fuel (t / (Region.ready .any ops listed).length) (listed.setIfInBounds i true) (u.erase i) (by simpa using hs) (fun j hj hj2 => by
        rw [getD_set] at hj2
        split at hj2
        · cases hj2
        · rename_i hne
          have hji : j ≠ i := fun e => hne ⟨e.symm, by omega⟩
          exact (List.mem_erase_of_ne hji).2 (hu j hj hj2)) (by have := List.length_erase_of_mem (hu i h1 h2); omega)
      obtain ⟨g1, g2, g3⟩ := ih
      show (i :: _).Nodup ∧ _
      refine ⟨List.nodup_cons.2 ⟨fun h => ?_, g1⟩, fun j => ?_, fun p j r hp o e ho he hb => ?_⟩
      · have := ((g2 i).1 h).2
        rw [getD_set, if_pos ⟨rfl, by omega⟩] at this; cases this
      · rw [List.mem_cons, g2, getD_set]
        constructor
        · rintro (rfl | ⟨a, b⟩)
          · exact ⟨h1, h2⟩
          · split at b
            · cases b
            · exact ⟨a, b⟩
        · rintro ⟨a, b⟩
          by_cases e : j = i
          · exact .inl e
          · refine .inr ⟨a, ?_⟩
            rw [if_neg (fun h => e h.1.symm)]; exact b
      · dsimp only at hp
        cases p with
        | nil =>
          simp only [List.nil_append, List.cons.injEq] at hp
          obtain ⟨rfl, _⟩ := hp
          exact .inr (h3 o e ho he hb)
        | cons a p =>
          simp only [List.cons_append, List.cons.injEq] at hp
          obtain ⟨rfl, hp⟩ := hp
          rcases g3 p j r hp o e ho he hb with h | h
          · exact .inl (List.mem_cons_of_mem _ h)
          · rw [getD_set] at h
            split at h
            · rename_i hh; exact .inl (by rw [hh.1]; exact List.mem_cons_self ..)
            · exact .inr h
theorem LinGo.ext {ops : Array Oper} {l : List Nat} (h : LinGo ops 0 l) (hlow : lowB 0 ops.toList = true) : LinExt ops l := by
  obtain ⟨fuel, t, listed, rfl, hs, hU, hD, hf⟩ := h
  have hno : ∀ i, listed.getD i false ≠ true := fun i hi => by
    rcases Nat.lt_or_ge i ops.size with hl | hl
    · have := (hU i hl).2 (Nat.zero_le _)
      have := (getD_ft this).2; simp_all
    · simp [Array.getD_eq_getD_getElem?, Array.getElem?_eq_none (show listed.size ≤ i by omega)] at hi
  obtain ⟨h1, h2, h3⟩ := go_ext (fun i o e => lowB_ok ops.toList 0 hlow (by simp) i o e (Nat.zero_le _)) fuel t listed (List.range ops.size) hs (fun i hi _ => List.mem_range.2 hi) (by simpa using hf)
  refine ⟨h1, fun i => ⟨fun h => ((h2 i).1 h).1, fun h => (h2 i).2 ⟨h, (hU i h).2 (Nat.zero_le _)⟩⟩, fun p i r hp o e ho he hb => ?_⟩
  rcases h3 p i r hp o e ho he hb with h | h
  · exact h
  · exact absurd h (hno _)
theorem LinExt.tp {ops : Array Oper} {l : List Nat} (h : LinExt ops l) {i j : Nat} (ht : TP ops j i) : ∀ p r, l = p ++ i :: r → j ∈ p := by
  induction ht with
  | one ho he hb hj => intro p r hp; rw [← hj]; exact h.dep p _ r hp _ _ ho he hb
  | more _ ho he hb hk ih =>
    intro p r hp
    have hm := h.dep p _ r hp _ _ ho he hb
    rw [hk] at hm
    obtain ⟨p1, p2, hpp⟩ := List.append_of_mem hm
    have := ih p1 (p2 ++ _ :: r) (by rw [hp, hpp, List.append_assoc, List.cons_append])
    rw [hpp]
    exact List.mem_append_left _ this
/-- A part of such an order: what comes ahead of what within it. -/
structure PartOf (ops : Array Oper) (p : List Nat) : Prop where
  nd : p.Nodup
  lt : ∀ i ∈ p, i < ops.size
  tp : ∀ p1 i r, p = p1 ++ i :: r → ∀ j, TP ops j i → j ∈ p → j ∈ p1
/-- The order, split at an operation. -/
theorem LinExt.split {ops : Array Oper} {l : List Nat} (h : LinExt ops l) (s : Nat) (hs : s < ops.size) : ∃ p r, l = p ++ s :: r ∧ PartOf ops p ∧ PartOf ops r ∧ (∀ i, i < ops.size → i ≠ s → (i ∈ p ∧ i ∉ r) ∨ (i ∉ p ∧ i ∈ r)) ∧ s ∉ p ∧ s ∉ r ∧ (∀ j, TP ops j s → j ∈ p) ∧ (∀ j, TP ops s j → j < ops.size → j ∈ r ∧ j ∉ p) ∧ (∀ j i, TP ops j i → i ∈ p → j ∈ p) := by
  obtain ⟨p, r, rfl⟩ := List.append_of_mem ((h.mem s).2 hs)
  have hnd := h.nd
  rw [List.nodup_append] at hnd
  obtain ⟨n1, n2, n3⟩ := hnd
  obtain ⟨n4, n5⟩ := List.nodup_cons.1 n2
  have hsp : s ∉ p := fun hp => n3 s hp s (by simp) rfl
  have hmem : ∀ i, i ∈ p ∨ i = s ∨ i ∈ r ↔ i < ops.size := fun i => by rw [← h.mem i]; simp
  refine ⟨p, r, rfl, ⟨n1, fun i hi => (hmem i).1 (.inl hi), fun p1 i r1 hp j hj _ => h.tp hj p1 (r1 ++ s :: r) (by simp [hp])⟩, ⟨n5, fun i hi => (hmem i).1 (.inr (.inr hi)), fun p1 i r1 hp j hj hjr => ?_⟩, fun i hi hne => ?_, hsp, n4, fun j hj => h.tp hj p r rfl, fun j hj hjl => ?_, fun j i hj hi => ?_⟩
  · have := h.tp hj (p ++ s :: p1) r1 (by simp [hp])
    simp only [List.mem_append, List.mem_cons] at this
    rcases this with hh | rfl | hh
    · exact absurd rfl (n3 j hh j (by simp [hjr]))
    · exact absurd hjr n4
    · exact hh
  · rcases (hmem i).2 hi with hh | hh | hh
    · exact .inl ⟨hh, fun hr => n3 i hh i (by simp [hr]) rfl⟩
    · exact absurd hh hne
    · exact .inr ⟨fun hp => n3 i hp i (by simp [hh]) rfl, hh⟩
  · have hjp : j ∉ p := fun hp => by
      obtain ⟨p1, p2, rfl⟩ := List.append_of_mem hp
      have := h.tp hj p1 (p2 ++ s :: r) (by simp)
      exact hsp (List.mem_append_left _ this)
    rcases (hmem j).2 hjl with hh | rfl | hh
    · exact absurd hh hjp
    · exact absurd (h.tp hj p r rfl) hsp
    · exact ⟨hh, hjp⟩
  · obtain ⟨p1, p2, rfl⟩ := List.append_of_mem hi
    exact List.mem_append_left _ (h.tp hj p1 (p2 ++ s :: r) (by simp))
theorem perm_run {c : Cx} (hc : c.ok) {ops : Array Oper} {n0 : Nat} {T' : Tm} {M' : Mem} {D : List Deferred} {R : Ending → World → Prop} {k : List Item} {q : List Nat}
    (hfin : ∀ ρ a w, a.tmps.size = c.fn.ntmps → TmOk ρ T' (· < n0 + ops.size) a → a.defers = D → WI c.w0 c.L ρ M' (· < n0 + ops.size) w → TW c.P c.f c.rr a (.inRegion ops q :: k) w R) :
    ∀ (p : List Nat) (l : List (Tr × Option Eff)) (T : Tm) (M : Mem) (S : Nat → Prop) (ρ : Env) (a : Act) (w : World), p.Nodup → (∀ i, i ∈ p ↔ ∃ x ∈ l, x.1.i = i) → l.Pairwise (fun a b => a.1.i ≠ b.1.i) → (∀ x ∈ l, x.1.i < ops.size) → l.Pairwise (fun a b => TP ops a.1.i b.1.i ∨ Apart a.1 b.1) →
      (∀ p1 i r, p = p1 ++ i :: r → ∀ j, TP ops j i → j ∈ p → j ∈ p1) → Runs c ops.toList n0 l T M T' M' → a.tmps.size = c.fn.ntmps → TmOk ρ T S a → a.defers = D → WI c.w0 c.L ρ M S w → (∀ x, S x → x < n0 + ops.size) → (∀ x ∈ l, ¬ S (n0 + x.1.i)) →
      TW c.P c.f c.rr a (.inRegion ops (p ++ q) :: k) w R
  | [], l, T, M, S, ρ, a, w, _, hmem, _, _, _, _, hrun, hsz, hT, hdf, hW, hS, _ => by
    have hl : l = [] := by
      cases l with
      | nil => rfl
      | cons x l => exact absurd ((hmem x.1.i).2 ⟨x, by simp, rfl⟩) (by simp)
    subst hl
    obtain ⟨rfl, rfl⟩ := hrun
    exact hfin ρ a w hsz (hT.mono hS) hdf (hW.mono hS)
  | i :: p, l, T, M, S, ρ, a, w, hnd, hmem, hdist, hlt, hap, hresp, hrun, hsz, hT, hdf, hW, hS, hfresh => by
    obtain ⟨⟨b, x⟩, hbl, hbi⟩ := (hmem i).1 (by simp)
    simp only at hbi
    subst hbi
    obtain ⟨u, v, huv⟩ := List.append_of_mem hbl
    have hmem' : ∀ y, y ∈ l ↔ y = (b, x) ∨ y ∈ u ++ v := by intro y; rw [huv]; simp; constructor <;> (rintro (h | h | h) <;> simp [h])
    have hlt' : b.i < ops.size := hlt _ hbl
    rw [huv] at hrun hap hdist
    have hapart : ∀ y ∈ u, Apart y.1 b := by
      intro y hy
      rcases (List.pairwise_append.1 hap).2.2 y hy (b, x) (by simp) with htp | h
      · have hyp : y.1.i ∈ b.i :: p := (hmem y.1.i).2 ⟨y, (hmem' y).2 (.inr (by simp [hy])), rfl⟩
        have := hresp [] b.i p rfl y.1.i htp hyp
        cases this
      · exact h
    obtain ⟨hstep, hrest⟩ := hrun.front hc.pf hapart
    have hbS : ¬ S (n0 + b.i) := hfresh (b, x) hbl
    have hap' : (u ++ v).Pairwise (fun a b => TP ops a.1.i b.1.i ∨ Apart a.1 b.1) := by
      rw [List.pairwise_append] at hap ⊢
      exact ⟨hap.1, (List.pairwise_cons.1 hap.2.1).2, fun y hy z hz => hap.2.2 y hy z (by simp [hz])⟩
    have hdist' : (u ++ v).Pairwise (fun a b => a.1.i ≠ b.1.i) := by
      rw [List.pairwise_append] at hdist ⊢
      exact ⟨hdist.1, (List.pairwise_cons.1 hdist.2.1).2, fun y hy z hz => hdist.2.2 y hy z (by simp [hz])⟩
    have hne : ∀ y ∈ u ++ v, y.1.i ≠ b.i := by
      intro y hy e
      rw [List.pairwise_append] at hdist
      rcases List.mem_append.1 hy with hy | hy
      · exact hdist.2.2 y hy (b, x) (by simp) e
      · exact (List.pairwise_cons.1 hdist.2.1).1 y hy e.symm
    have hnd' := List.nodup_cons.1 hnd
    have hmem2 : ∀ j, j ∈ p ↔ ∃ y ∈ u ++ v, y.1.i = j := by
      intro j
      constructor
      · intro hj
        obtain ⟨y, hy, hyj⟩ := (hmem j).1 (by simp [hj])
        rcases (hmem' y).1 hy with rfl | hy
        · exact absurd (hyj ▸ hj) hnd'.1
        · exact ⟨y, hy, hyj⟩
      · rintro ⟨y, hy, rfl⟩
        have := (hmem y.1.i).2 ⟨y, (hmem' y).2 (.inr hy), rfl⟩
        rcases List.mem_cons.1 this with h | h
        · exact absurd h (hne y hy)
        · exact h
    have hresp' : ∀ p1 i r, p = p1 ++ i :: r → ∀ j, TP ops j i → j ∈ p → j ∈ p1 := by
      intro p1 i r hp j hj hjp
      have := hresp (b.i :: p1) i r (by simp [hp]) j hj (by simp [hjp])
      rcases List.mem_cons.1 this with rfl | h
      · exact absurd hjp hnd'.1
      · exact h
    obtain ⟨o, s1, s2, s3, s4, s5⟩ := hstep
    rw [get_eq, Array.getElem?_toList] at s1
    cases x with
    | none =>
      refine TW.pass s1 (wantS_ok hT s5.1) ?_
      refine perm_run hc hfin p (u ++ v) _ _ S ρ _ w hnd'.2 hmem2 hdist' (fun y hy => hlt y ((hmem' y).2 (.inr hy))) hap' hresp' hrest (by rw [Act.put_size]; exact hsz) ?_ (by rw [Act.put_defers]; exact hdf) hW hS (fun y hy => hfresh y ((hmem' y).2 (.inr hy)))
      rw [s3]
      exact hT.updD hsz (Env.agree.refl S ρ) (fun _ h => h) s2 (v := .v undef) trivial
    | some e =>
      obtain ⟨g1, g2, g3, g4, g5⟩ := s5
      refine TW.op s1 (wantS_ok hT g1) ?_
      refine (opF_ok hc.tab hc.pf hT hW hbS g2 g3).mono fun v' w' hp => ?_
      obtain ⟨ρ', r1, rfl, r3, r4⟩ := hp
      have hdom : ∀ j, S j → e.dom S (n0 + b.i) j := fun j hj => by cases e <;> first | exact hj | exact .inl hj
      have hdom' : ∀ j, e.dom S (n0 + b.i) j → S j ∨ j = n0 + b.i := fun j hj => by cases e <;> first | exact .inl hj | exact hj
      refine perm_run hc hfin p (u ++ v) _ _ (e.dom S (n0 + b.i)) ρ' _ w' hnd'.2 hmem2 hdist' (fun y hy => hlt y ((hmem' y).2 (.inr hy))) hap' hresp' hrest (by rw [Act.put_size]; exact hsz) ?_ (by rw [Act.put_defers]; exact hdf) r4 ?_ ?_
      · rw [s3]
        exact hT.updD hsz r1 hdom s2 r3
      · intro j hj
        rcases hdom' j hj with hj | rfl
        · exact hS j hj
        · omega
      · intro y hy hj
        rcases hdom' _ hj with hj | hj
        · exact hfresh y ((hmem' y).2 (.inr hy)) hj
        · exact hne y hy (by omega)
def ndB : List Nat → Bool
  | [] => true
  | a :: l => !l.contains a && ndB l
theorem ndB_ok : ∀ {l : List Nat}, ndB l = true → l.Nodup
  | [], _ => List.nodup_nil
  | a :: l, h => by
    unfold ndB at h
    simp only [Bool.and_eq_true, Bool.not_eq_true'] at h
    exact List.nodup_cons.2 ⟨by simpa using h.1, ndB_ok h.2⟩
/-- A part of a drawn order, told by the set of its operations. -/
theorem Run.perm {c : Cx} (hc : c.ok) {T : List (Nat × SV)} {M : List (Nat × SObj)} {n : Nat} {D : List Deferred} {ops : Array Oper} {p q : List Nat} {k : List Item} {R : Ending → World → Prop} (l l' : List Nat) (hp : PartOf ops p) (hl : AllP (· ∈ p) l) (hl' : AllP (· ∉ p) l') (hcov : ∀ i, i < ops.size → i ∈ l ∨ i ∈ l') (hnd : ndB l = true)
    (h : drawK c ops.toList n False (fun T M tr => pairsB (masks ops.toList []) tr = true ∧ Run c ⟨T, M, n + lenL ops.toList, D, .inRegion ops q :: k⟩ R) l T M []) :
    Run c ⟨T, M, n, D, .inRegion ops (p ++ q) :: k⟩ R := by
  rcases drawK_ok _ _ _ _ h with h | ⟨tr, T', M', h1, h2, h3, h4⟩
  · exact h.elim
  simp only [List.nil_append] at h3
  rw [lenL_eq, Array.length_toList] at h4
  have hmk : ∀ k j, (getD0 (masks ops.toList []) k).testBit j = true → TP ops j k := masks_ok ops.toList [] (by simp) (by simp [getD0])
  have hmem : ∀ i, i ∈ p ↔ ∃ x ∈ tr, x.1.i = i := by
    intro i
    have e : (∃ x ∈ tr, x.1.i = i) ↔ i ∈ l := by rw [← h1]; simp
    rw [e]
    constructor
    · intro hi
      rcases hcov i (hp.lt i hi) with h | h
      · exact h
      · exact absurd hi (hl'.mem i h)
    · exact fun hi => hl.mem i hi
  refine ⟨fun ρ a w hi => ?_⟩
  refine perm_run hc (fun ρ a w q1 q2 q3 q4 => h4.go ρ a w ⟨q1, q2, q3, q4⟩) p tr _ _ _ ρ a w hp.nd hmem ?_ (fun x hx => hp.lt _ ((hmem _).2 ⟨x, hx, rfl⟩)) (List.pairwise_map.1 (pairsB_ok hmk h3)) hp.tp h2 hi.sz hi.tm hi.df hi.wi (fun x hx => ?_) (fun x _ => ?_)
  · have : (tr.map (·.1.i)).Pairwise (· ≠ ·) := by rw [h1]; exact ndB_ok hnd
    exact List.pairwise_map.1 this
  · have : x < n := hx
    show x < n + ops.size
    omega
  · intro hlt
    have : n + x.1.i < n := hlt
    omega
/-- The order of such a region, as it may be. -/
theorem Run.drawE {c : Cx} (hc : c.ok) {T : List (Nat × SV)} {M : List (Nat × SObj)} {n : Nat} {D : List Deferred} {id : Nat} {ops : Array Oper} {k : List Item} {R : Ending → World → Prop} (hlow : lowB 0 ops.toList = true)
    (h : ∀ l, LinExt ops l → Run c ⟨T, M, n, D, .inRegion ops l :: k⟩ R) : Run c ⟨T, M, n, D, .code (.region id ops true) :: k⟩ R := Run.draw0 hc fun l hl => h l (hl.ext hlow)
theorem tp_of {ops : Array Oper} {j i : Nat} (h : (getD0 (masks ops.toList []) i).testBit j = true) : TP ops j i := masks_ok ops.toList [] (by simp) (by simp [getD0]) i j h
theorem Run.opX {c : Cx} {T : List (Nat × SV)} {M : List (Nat × SObj)} {n : Nat} {D : List Deferred} {ops : Array Oper} {i : Nat} {r : List Nat} {k : List Item} {R : Ending → World → Prop} {o : Oper} (ho : get ops.toList i = some o) (hw : wantS ops.toList (look T) o = some true) (hd : okD c.fn.ntmps o.dst = true)
    (h : ∀ ρ a w, WI c.w0 c.L ρ (look M) (· < n) w → TmOk ρ (look T) (· < n) a → ∃ v w', (execOp a.eval o).run c.P w = .ok (.value v) w' ∧ ∃ u T' ρ' M' n' L', v = u.conc ρ' ∧ u.sc (· < n') ∧ (∀ t y', look T' t = some y' → ∃ y, look T t = some y ∧ y.conc ρ = y'.conc ρ' ∧ y'.sc (· < n')) ∧ WI w' L' ρ' (look M') (· < n') w' ∧
      Run { c with w0 := w', L := L' } ⟨putS T' o.dst u, M', n', D, .inRegion ops r :: k⟩ R) : Run c ⟨T, M, n, D, .inRegion ops (i :: r) :: k⟩ R := by
  refine ⟨fun ρ a w hi => ?_⟩
  rw [get_eq, Array.getElem?_toList] at ho
  refine TW.op ho (wantS_ok hi.tm hw) ?_
  obtain ⟨v, w', hx, u, T', ρ', M', n', L', hv, hu, hT, hW, hR⟩ := h ρ a w hi.wi hi.tm
  subst hv
  refine Oc.value hx ?_
  have hi' : Inv { c with w0 := w', L := L' } ρ' ⟨T', M', n', D, .inRegion ops (i :: r) :: k⟩ a w' := by
    refine ⟨hi.sz, fun t v ht => ?_, hi.df, hW⟩
    obtain ⟨u, h1, h2, h3⟩ := hT t v ht
    obtain ⟨g1, g2, _⟩ := hi.tm t _ h1
    exact ⟨g1, by rw [← h2]; exact g2, h3⟩
  exact hR.go ρ' _ w' (hi'.put hd (Env.agree.refl _ _) (Nat.le_refl _) hu hW _)
theorem ownsRow_of {w w' : World} {b e n : Nat} {t : TypeId} {v : Value} {xs : List Value} (h : w.ownsRow b t e v n xs) (hk : ∀ g, v.ownBlock = some g → w'.heap[g]? = w.heap[g]?) : w'.ownsRow b t e v n xs := by
  refine ⟨h.1, h.2.imp id fun ⟨g, cap, cur, h1, h2, h3, h4⟩ => ⟨g, cap, cur, h1, h2, ?_, h4⟩⟩
  subst h1
  rw [hk g rfl]; exact h3
theorem ownsRow_up {w : World} {b b' e n : Nat} {t : TypeId} {v : Value} {xs : List Value} (h : w.ownsRow b t e v n xs) (hk : ∀ g, v.ownBlock = some g → b' ≤ g) : w.ownsRow b' t e v n xs :=
  ⟨h.1, h.2.imp id fun ⟨g, cap, cur, h1, h2, h3⟩ => ⟨g, cap, cur, h1, hk g (by rw [h1]; rfl), h3⟩⟩
/-- append to a slice of before the call, whose block is not told. -/
theorem Run.appendH {c : Cx} (hc : c.ok) {T : List (Nat × SV)} {M : List (Nat × SObj)} {n : Nat} {D : List Deferred} {ops : Array Oper} {i : Nat} {r : List Nat} {k : List Item} {R : Ending → World → Prop} {o : Oper} {x y : Operand} {t : TypeId}
    (ho : get ops.toList i = some o) (hop : o.op = .call { callee := .builtin .append, args := #[x, y], argTypes := #[t, t] }) (hw : wantS ops.toList (look T) o = some true) (hd : okD c.fn.ntmps o.dst = true)
    {v : Value} {e m : Nat} {xs : List Value} {te : TypeId} (hx : ev (look T) x = some (.v v)) (hown : c.w0.ownsRow 0 te e v m xs) (hhid : ∀ g, v.ownBlock = some g → ∀ p ∈ c.L, p.2 ≠ g)
    {j2 off len cap : Nat} {ob : SObj} {cs : List SV} {news : List Value} (hy : ev (look T) y = some (.slc j2 off len cap)) (hj2 : look M j2 = some ob) (hl : ob.list = some cs) (hnews : takeD cs off (len * e) = some (news.map .v)) (hone : allOne (news.map .v) = true)
    {ti tie : TI} {bytes : Nat} (hti : look c.tab t = some ti) (hsh : ti.sh = .slc te e bytes) (hte : look c.tab te = some tie) (hz : tie.zero.length = e) (he : 0 < e)
    (hfit : (m + len) * bytes ≤ 140737488355328 ∧ m + len < 9223372036854775808) (is : List Nat) (M' : List (Nat × SObj)) (his : ∀ i ∈ is, i < n ∧ ∃ o, look M i = some o ∧ ∀ ρ w, o.holds c.w0 c.L ρ i w → o.occ ρ i)
    (hM' : ∀ x ∈ M', look M x.1 = some x.2 ∧ (x.1 ∈ is ∨ ∃ pl, x.2 = .pin pl) ∧ x.2.wnd = false)
    (h : ∀ v' w' L', w'.ownsRow 0 te e v' (m + len) (xs ++ news) → (∀ g, g < c.w0.heap.size → v.ownBlock ≠ some g → (∀ p ∈ c.L, p.2 ≠ g) → w'.heap[g]? = c.w0.heap[g]?) → c.w0.heap.size ≤ w'.heap.size → w'.os = c.w0.os → w'.tape = c.w0.tape → w'.output = c.w0.output →
      (∀ g, v'.ownBlock = some g → (v.ownBlock = some g ∨ c.w0.heap.size ≤ g) ∧ ∀ p ∈ L', p.2 ≠ g) → (∀ p ∈ L', p.1 ∈ is ∧ ((∃ q ∈ c.L, q.2 = p.2) ∨ c.w0.heap.size ≤ p.2)) → Run { c with w0 := w', L := L' } ⟨putS T o.dst (.v v'), M', n, D, .inRegion ops r :: k⟩ R) :
    Run c ⟨T, M, n, D, .inRegion ops (i :: r) :: k⟩ R := by
  refine Run.opX ho hw hd fun ρ a w hW hT => ?_
  obtain ⟨h1, _⟩ := ev_ok hT hx
  obtain ⟨h2, _⟩ := ev_ok hT hy
  have hti := Tab.ok_look hc.tab hti
  have hte := Tab.ok_look hc.tab hte
  obtain ⟨d, hd1, hd2⟩ := hti.desc
  obtain ⟨inf, rfl, g2, g3, g4⟩ := sh_desc.2.2.2.2.1 te e bytes (hd2.trans hsh)
  obtain ⟨inf', z, i1, _, i3, i4⟩ := hte.infos
  rw [g2] at i1
  obtain rfl := Option.some.inj i1
  have hzs : z.cells.size = e := by rw [← hz, ← i4]; simp
  obtain ⟨q1, q2⟩ := takeD_eq _ _ _ _ hnews
  have hnl : news.length = len * e := by have := congrArg List.length q2; simp at this; omega
  have hcell : ∀ jj u, news[jj]? = some u → w.cell? ((⟨ρ.s j2, ρ.o j2 + off, none⟩ : Addr).add jj) = some u := by
    intro jj u hu
    have hjl : jj < news.length := by
      rcases Nat.lt_or_ge jj news.length with h | h
      · exact h
      · rw [List.getElem?_eq_none h] at hu; cases hu
    have hg' : get cs (off + jj) = some (.v u) := by
      have e1 : (news.map SV.v)[jj]? = some (.v u) := by rw [List.getElem?_map, hu]; rfl
      rw [get_eq, ← e1, q2, List.getElem?_take_of_lt (by omega), List.getElem?_drop]
    rw [addr_add, Nat.add_assoc]
    exact hW.cell hj2 hl hg'
  have hone' : ∀ u ∈ news, u.oneCell' = true := by
    intro u hu
    exact one_conc (ρ := ρ) (allOne_mem hone (.v u) (List.mem_map.2 ⟨u, hu, rfl⟩))
  have hblk : ∀ g, v.ownBlock = some g → g < c.w0.heap.size ∧ w.heap[g]? = c.w0.heap[g]? := fun g hg => ⟨(hown.lt g hg).2, hW.keep g (hown.lt g hg).2 (hhid g hg)⟩
  have hownw : w.ownsRow 0 te e v m xs := ownsRow_of hown fun g hg => (hblk g hg).2
  obtain ⟨v', w', row, r1, r2, r3, r4, r5⟩ := run_append_two (P := c.P) w t o.type te inf z e hd1 g2 i3 g3 hzs he _ m _ hownw ⟨ρ.s j2, ρ.o j2 + off, none⟩ len cap news hnl hcell hone' (by simp only [maxLen]; omega) (by rw [g4]; exact hfit.1)
  have hrun : (execOp a.eval o).run c.P w = .ok (.value v') w' := by
    simp only [SV.conc] at h1 h2 r1
    simp [execOp, hop, resolve, invoke, builtin, h1, h2, r1]
  have hF : ModF w (fun g => v.ownBlock = some g) w' := ⟨fun g hg hn => r3.block g hg (fun e => by
    rcases r4 with r4 | r4
    · rw [r4] at e; cases e
    · rw [r4] at e; exact hn e.symm), r3.size, r3.os, r3.tape, r3.output⟩
  have hne : ∀ i o, look M i = some o → o.occ ρ i → ¬ (v.ownBlock = some (ρ.s i)) := by
    intro i o hi hocc hg
    rcases hW.new i o hi hocc with ⟨p, hp, hpe⟩ | hge
    · exact hhid _ hg p hp hpe
    · have := (hblk _ hg).1; omega
  have hocc : ∀ i ∈ is, i < n ∧ ∃ o, look M i = some o ∧ o.occ ρ i := fun i hi => by
    obtain ⟨g1, o, g2, g3⟩ := his i hi
    exact ⟨g1, o, g2, g3 ρ w (hW.mem i o g2).2.2⟩
  have hWn := hW.rebase hF is M' hocc (fun x hx => by
    obtain ⟨m1, m2, m3⟩ := hM' x hx
    refine ⟨m1, ?_, fun ho => ?_⟩
    · rcases m2 with m2 | ⟨pl, m2⟩
      · obtain ⟨_, o, o1, o2⟩ := hocc _ m2
        rw [m1] at o1
        obtain rfl := Option.some.inj o1
        have hno := hne _ _ m1 o2
        cases hx2 : x.2 <;> rw [hx2] at m3 <;> first
          | exact hno
          | exact fun _ => hno
          | trivial
          | cases m3
      · rw [m2]; trivial
    · rcases m2 with m2 | ⟨pl, m2⟩
      · exact m2
      · rw [m2] at ho; exact ho.elim)
  refine ⟨v', w', hrun, .v v', T, ρ, M', n, _, rfl, trivial, fun t y ht => ⟨y, ht, rfl, (hT t y ht).2.2⟩, hWn, h v' w' _ r2 (fun g hg hv hL => ?_) (Nat.le_trans hW.size hF.size) (hF.os.trans hW.os) (hF.tape.trans hW.tape) (hF.output.trans hW.output) (fun g hg => ⟨?_, fun p hp he => ?_⟩) (fun p hp => ?_)⟩
  · rw [hF.keep g (Nat.lt_of_lt_of_le hg hW.size) hv]; exact hW.keep g hg hL
  · rcases r5 g hg with r5 | r5
    · left
      rcases r4 with r4 | r4
      · rw [r4] at r5; cases r5
      · rw [r4] at r5; exact r5
    · right; have := hW.size; omega
  · obtain ⟨i, hi, rfl⟩ := List.mem_map.1 hp
    obtain ⟨_, oo, o1, o2⟩ := hocc i hi
    simp only at he
    rcases r5 g hg with r5 | r5
    · rcases r4 with r4 | r4
      · rw [r4] at r5; cases r5
      · rw [r4] at r5; exact hne i oo o1 o2 (by rw [he]; exact r5)
    · have := SObj.holds_lt (hW.mem i oo o1).2.2 o2; omega
  · obtain ⟨i, hi, rfl⟩ := List.mem_map.1 hp
    obtain ⟨_, oo, o1, o2⟩ := hocc i hi
    exact ⟨hi, hW.new i oo o1 o2⟩
/-- The world told anew, at any point. -/
theorem Run.chk {c : Cx} {T : List (Nat × SV)} {M : List (Nat × SObj)} {n : Nat} {D : List Deferred} {todo : List Item} {R : Ending → World → Prop} (is : List Nat) (M' : List (Nat × SObj)) (his : ∀ i ∈ is, i < n ∧ ∃ o, look M i = some o ∧ ∀ ρ w, o.holds c.w0 c.L ρ i w → o.occ ρ i)
    (hM' : ∀ x ∈ M', look M x.1 = some x.2 ∧ (x.1 ∈ is ∨ ∀ ρ, ¬ x.2.occ ρ x.1))
    (h : ∀ w' L', (∀ g, g < c.w0.heap.size → (∀ p ∈ c.L, p.2 ≠ g) → w'.heap[g]? = c.w0.heap[g]?) → c.w0.heap.size ≤ w'.heap.size → w'.os = c.w0.os → w'.tape = c.w0.tape → w'.output = c.w0.output →
      (∀ p ∈ L', p.1 ∈ is ∧ ((∃ q ∈ c.L, q.2 = p.2) ∨ c.w0.heap.size ≤ p.2)) → Run { c with w0 := w', L := L' } ⟨T, M', n, D, todo⟩ R) : Run c ⟨T, M, n, D, todo⟩ R := by
  refine ⟨fun ρ a w hi => ?_⟩
  have hocc : ∀ i ∈ is, i < n ∧ ∃ o, look M i = some o ∧ o.occ ρ i := fun i hi' => by
    obtain ⟨g1, o, g2, g3⟩ := his i hi'
    exact ⟨g1, o, g2, g3 ρ w (hi.wi.mem i o g2).2.2⟩
  have hWn := hi.wi.rebase (F := fun _ => False) ((Ext.refl w).modF _) is M' hocc (fun x hx => by
    obtain ⟨m1, m2⟩ := hM' x hx
    refine ⟨m1, ?_, fun ho => ?_⟩
    · cases x.2 <;> simp [SObj.away]
    · rcases m2 with m2 | m2
      · exact m2
      · exact absurd ho (m2 ρ))
  refine (h w _ (fun g hg hL => hi.wi.keep g hg hL) hi.wi.size hi.wi.os hi.wi.tape hi.wi.output (fun p hp => ?_)).go ρ a w ⟨hi.sz, hi.tm, hi.df, hWn⟩
  obtain ⟨i, hi', rfl⟩ := List.mem_map.1 hp
  obtain ⟨_, oo, o1, o2⟩ := hocc i hi'
  exact ⟨hi', hi.wi.new i oo o1 o2⟩
theorem Run.upToW {ι : Type} (c : ι → Cx) {T : Nat → ι → List (Nat × SV)} {M : Nat → ι → List (Nat × SObj)} {n : Nat} {D : List Deferred} {todo : List Item} {R : Ending → World → Prop} (J : Nat → ι → Prop) (N : Nat) (x0 : ι) (h0 : J 0 x0)
    (hstep : ∀ i x, i < N → J i x → (∀ y, J (i + 1) y → Run (c y) ⟨T (i + 1) y, M (i + 1) y, n, D, todo⟩ R) → Run (c x) ⟨T i x, M i x, n, D, todo⟩ R) (hend : ∀ x, J N x → Run (c x) ⟨T N x, M N x, n, D, todo⟩ R) : Run (c x0) ⟨T 0 x0, M 0 x0, n, D, todo⟩ R := by
  have key : ∀ d i x, i + d = N → J i x → Run (c x) ⟨T i x, M i x, n, D, todo⟩ R := by
    intro d
    induction d with
    | zero => intro i x hi hJ; obtain rfl : i = N := by omega
              exact hend x hJ
    | succ d ih => intro i x hi hJ; exact hstep i x (by omega) hJ fun y hy => ih (i + 1) y (by omega) hy
  exact key N 0 x0 (by omega) h0
theorem Run.readW {c : Cx} {T T' : List (Nat × SV)} {M : List (Nat × SObj)} {n : Nat} {D : List Deferred} {todo : List Item} {R : Ending → World → Prop} (p : Option Addr) (cap e m : Nat) (vs : List Value) (hv : RowsAt c.w0 (.slice p m cap) e m vs) (hL : ∀ b, (Value.slice p m cap).ownBlock = some b → ∀ p ∈ c.L, p.2 ≠ b)
    (hT : ∀ x ∈ T', look T x.1 = some x.2 ∨ (look T x.1 = some (.v (.slice p m cap)) ∧ x.2 = .opq n)) (h : ∀ b off, Run c ⟨T', (n + 1, .pin [(n, b, off, (p, m, cap))]) :: (n, .rwin e m vs) :: M, n + 2, D, todo⟩ R) : Run c ⟨T, M, n, D, todo⟩ R := by
  obtain ⟨h1, p', cap', hpe, h2, h3⟩ := hv
  obtain ⟨rfl, _, rfl⟩ : p = p' ∧ m = m ∧ cap = cap' := by simpa using hpe
  refine ⟨fun ρ a w hi => ?_⟩
  have hn : ¬ (n < n) := Nat.lt_irrefl n
  obtain ⟨b, off, hb⟩ : ∃ b off, (m = 0 ∨ (p = some ⟨b, off, none⟩ ∧ b < c.w0.heap.size ∧ ∀ j x, vs[j]? = some x → c.w0.cell? ⟨b, off + j, none⟩ = some x)) := by
    rcases h3 with h3 | ⟨blk, off, h4, h5, h6⟩
    · exact ⟨0, 0, .inl h3⟩
    · exact ⟨blk, off, .inr ⟨h4, h5, h6⟩⟩
  have hag := Env.bindW_agree ρ b off (p, m, cap) (S := (· < n)) hn
  obtain ⟨q1, q2, q3⟩ := Env.bindW_self ρ n b off (p, m, cap)
  have hW' := hi.wi.addR hag (i := n) (o := .rwin e m vs) trivial (fun _ _ h => h) (by
    simp only [SObj.holds, q1, q2, q3]
    refine ⟨h1, trivial, h2, ?_⟩
    rcases hb with hb | ⟨hb0, hb1, hb2⟩
    · exact .inl hb
    · exact .inr ⟨hb0, hb1, hL b (by rw [hb0]; rfl), hb2⟩)
  have hW2 := hW'.addR (i := n + 1) (Env.agree.refl _ _) (o := .pin [(n, b, off, (p, m, cap))]) (fun q hq => by rw [List.mem_singleton] at hq; subst hq; exact .inr rfl) (fun _ _ h => h) (fun q hq => by rw [List.mem_singleton] at hq; subst hq; exact ⟨q1, q2, q3⟩)
  refine (h b off).go (ρ.bindW n b off (p, m, cap)) a w ⟨hi.sz, fun t u ht => ?_, hi.df, ?_⟩
  · rcases hT _ (look_mem ht) with k1 | ⟨k1, k2⟩
    · obtain ⟨g1, g2, g3⟩ := hi.tm t u k1
      exact ⟨g1, by rw [conc_agree hag _ g3]; exact g2, SV.sc_mono (fun q (hq : q < n) => by show q < n + 2; omega) _ g3⟩
    · simp only at k2
      subst k2
      obtain ⟨g1, g2, g3⟩ := hi.tm t _ k1
      exact ⟨g1, by rw [g2]; simp only [SV.conc, q3], by show n < n + 2; omega⟩
  · rw [look_upd, look_upd]
    exact hW2.mono fun q hq => by have hq : (q < n ∨ q = n) ∨ q = n + 1 := hq; show q < n + 2; omega
/-- A slice told by its value again. -/
theorem Run.unread {c : Cx} {T T' : List (Nat × SV)} {M : List (Nat × SObj)} {n : Nat} {D : List Deferred} {todo : List Item} {R : Ending → World → Prop} (i q b off : Nat) (h0 : Option Addr × Nat × Nat) (hq : look M q = some (.pin [(i, b, off, h0)]))
    (hT : ∀ x ∈ T', look T x.1 = some x.2 ∨ (look T x.1 = some (.opq i) ∧ x.2 = .v (.slice h0.1 h0.2.1 h0.2.2))) (h : Run c ⟨T', M, n, D, todo⟩ R) : Run c ⟨T, M, n, D, todo⟩ R := by
  refine ⟨fun ρ a w hi => h.go ρ a w ⟨hi.sz, fun t u ht => ?_, hi.df, hi.wi⟩⟩
  rcases hT _ (look_mem ht) with k1 | ⟨k1, k2⟩
  · exact hi.tm t u k1
  · simp only at k2
    subst k2
    obtain ⟨g1, g2, g3⟩ := hi.tm t _ k1
    have := (hi.wi.mem q _ hq).2.2 _ (List.mem_singleton.2 rfl)
    exact ⟨g1, by rw [g2]; simp only [SV.conc, this.2.2], trivial⟩
end Go.Sx
namespace Go.Proofs.Ythaigkamfnjfbaa
open Go.Sx
set_option maxRecDepth 100000
set_option maxHeartbeats 4000000
/-- The synapses of a source. -/
def synAt (S : List Syn) (k : Int) : List Syn := S.filter fun s => decide (s.fr = k)
theorem synAt_succ {S : List Syn} {i : Nat} (h : i < S.length) (k : Int) : synAt (S.take (i + 1)) k = synAt (S.take i) k ++ if S[i].fr = k then [S[i]] else [] := by
  unfold synAt
  rw [← List.take_append_getElem h, List.filter_append]
  by_cases e : S[i].fr = k <;> simp [e]
theorem synAt_len (S : List Syn) (i : Nat) (k : Int) : (synAt (S.take i) k).length ≤ i := Nat.le_trans (List.length_filter_le ..) (by simp; omega)
def kval (m : List (Key × Value)) (k : Int) : Value := (kget m (.i k)).getD (.slice none 0 0)
theorem kval_put (m : List (Key × Value)) (a k : Int) (v : Value) : kval (kput m (.i a) v) k = if k = a then v else kval m k := by
  unfold kval
  by_cases e : k = a
  · subst e; rw [kget_put_same, if_pos rfl]; rfl
  · rw [kget_put_other _ _ _ _ (by simpa using e), if_neg e]
/-- What is known of the rows behind some synapses. -/
structure WInv (w : World) (S : List Syn) (i : Nat) (w0 : World) (L : List (Nat × Nat)) (m : List (Key × Value)) : Prop where
  ext : Ext w w0
  lid : ∀ p ∈ L, w.heap.size ≤ p.2
  own : ∀ k, w0.ownsRow w.heap.size 126 4 (kval m k) (synAt (S.take i) k).length ((synAt (S.take i) k).flatMap Syn.vals)
  off : ∀ k g, (kval m k).ownBlock = some g → ∀ p ∈ L, p.2 ≠ g
  apart : ∀ k k' g, k ≠ k' → (kval m k).ownBlock = some g → (kval m k').ownBlock ≠ some g
theorem WInv.start (w : World) (S : List Syn) : WInv w S 0 w [] [] where
  ext := Ext.refl w
  lid p hp := by cases hp
  own k := World.ownsRow_nil w _ _ _
  off k g h := by simp [kval, kget, Value.ownBlock] at h
  apart k k' g _ h := by simp [kval, kget, Value.ownBlock] at h
theorem WInv.chk {w : World} {S : List Syn} {i : Nat} {w0 w' : World} {L L' : List (Nat × Nat)} {m : List (Key × Value)} (h : WInv w S i w0 L m) (h1 : ∀ g, g < w0.heap.size → (∀ p ∈ L, p.2 ≠ g) → w'.heap[g]? = w0.heap[g]?) (h2 : w0.heap.size ≤ w'.heap.size) (h3 : w'.os = w0.os) (h4 : w'.tape = w0.tape) (h5 : w'.output = w0.output)
    (h6 : ∀ p ∈ L', (∃ q ∈ L, q.2 = p.2) ∨ w0.heap.size ≤ p.2) : WInv w S i w' L' m where
  ext := ⟨fun k hk => by rw [h1 k (Nat.lt_of_lt_of_le hk h.ext.size) (fun p hp => by have := h.lid p hp; omega)]; exact h.ext.keep k hk, Nat.le_trans h.ext.size h2, h3.trans h.ext.os, h4.trans h.ext.tape, h5.trans h.ext.output⟩
  lid p hp := by
    rcases h6 p hp with ⟨q, hq, e⟩ | hge
    · rw [← e]; exact h.lid q hq
    · have := h.ext.size; omega
  own k := ownsRow_of (h.own k) fun g hg => h1 g ((h.own k).lt g hg).2 (h.off k g hg)
  off k g hg p hp := by
    rcases h6 p hp with ⟨q, hq, e⟩ | hge
    · rw [← e]; exact h.off k g hg q hq
    · have := ((h.own k).lt g hg).2; omega
  apart := h.apart
theorem wires_run (vN vS : Value) (n : Net) (w : World) (hn : IsNet w vN vS n) (hS : n.S.length ≤ 8192) :
    Calls Try.prog 53 #[netV vN vS n] w fun e w' => ∃ b, e = .returned (.map (some b)) ∧ Ext w w' ∧ SwinAt w' (fun x => w.heap.size ≤ x ∧ x < w'.heap.size) b 4 (fun k => (synAt n.S k).length) fun k => (synAt n.S k).flatMap Syn.vals := by
  obtain ⟨hn1, hn2⟩ := hn
  obtain ⟨N, inp, S⟩ := n
  simp only at hn1 hn2 hS ⊢
  have hvS := hn2
  obtain ⟨_, pN, cN, rfl, _⟩ := hn1
  obtain ⟨_, pS, cS, rfl, _⟩ := hn2
  have hc : ∀ w0 L, Cx.ok ⟨Try.prog, tab, [], 53, Try.f53, [], w0, L, none⟩ := fun w0 L => ⟨tab_ok, trivial, Try.func53, mixed, fun _ h => by cases h⟩
  refine Run.start0 (tab := tab) (pf := []) (cuts := []) mixed tab_ok trivial Try.func53 rfl [.agg [.v (.slice pN N.length cN), ii inp, .v (.slice pS S.length cS)]] 1000 (by simp [SV.scs, SV.sc]) rfl ?_
  conv => whnf
  refine Run.trim (T' := [(3, .mp 1), (8, .v (.slice pS S.length cS)), (9, ii (S.length : Int)), (10, ii ((0 : Nat) : Int))]) (M' := [(1, .kmap false true [])]) 2 ⟨⟨rfl, (show 1 < 2 by decide)⟩, ⟨rfl, trivial⟩, ⟨rfl, trivial⟩, ⟨rfl, trivial⟩, trivial⟩ ⟨⟨rfl, by omega, trivial⟩, trivial⟩ (fun p hp => by cases hp) ?_
  refine Run.upToW (fun x : World × List (Nat × Nat) × List (Key × Value) => (⟨Try.prog, tab, [], 53, Try.f53, [], x.1, x.2.1, none⟩ : Cx)) (T := fun i x => [(3, .mp 1), (8, .v (.slice pS S.length cS)), (9, ii (S.length : Int)), (10, ii ((i : Nat) : Int))]) (M := fun i x => [(1, .kmap false true x.2.2)]) (fun i x => WInv w S i x.1 x.2.1 x.2.2 ∧ ∀ p ∈ x.2.1, p.1 = 1) S.length (w, [], []) ⟨WInv.start w S, fun p hp => by cases hp⟩ ?_ ?_
  · rintro i ⟨w0, L, m⟩ hi ⟨hJ, hJL⟩ ih
    simp only at hJ hJL ih ⊢
    have hvS0 : RowsAt w0 (.slice pS S.length cS) 4 S.length (S.flatMap Syn.vals) := hvS.ext hJ.ext
    have hoff : ∀ b, (Value.slice pS S.length cS).ownBlock = some b → ∀ p ∈ L, p.2 ≠ b := fun b hb p hp he => by
      obtain ⟨_, p', c', hpe, _, hh⟩ := hvS
      obtain ⟨rfl, _, _⟩ : pS = p' ∧ S.length = S.length ∧ cS = c' := by simpa using hpe
      rcases hh with hh | ⟨blk, off, rfl, h4, _⟩
      · omega
      · have : blk = b := by simpa [Value.ownBlock] using hb
        have := (hJ.lid p hp)
        omega
    refine Run.readW pS cS 4 S.length _ hvS0 hoff (T' := [(3, .mp 1), (8, .opq 2), (9, ii (S.length : Int)), (10, ii ((i : Nat) : Int))]) (AllP.mem ⟨.inl rfl, .inr ⟨rfl, rfl⟩, .inl rfl, .inl rfl, trivial⟩) fun bS oS => ?_
    refine Run.of_wpK (hc w0 L) 1000 _ ?_
    conv => whnf
    rw [decide_eq_true (show ((i : Nat) : Int) < (S.length : Int) by omega)]
    conv => whnf
    refine ⟨by omega, ?_⟩
    conv => whnf
    rw [opF_loadW (f := Syn.vals) i rfl rfl rfl rfl rfl Syn.vlen (by rw [idx_nat]) hi]
    conv => whnf
    refine Run.unread 2 3 bS oS _ rfl (T' := [(3, .mp 1), (5, .ptr 4 0), (8, .v (.slice pS S.length cS)), (9, ii (S.length : Int)), (10, ii ((i : Nat) : Int))]) (AllP.mem ⟨.inl rfl, .inl rfl, .inr ⟨rfl, rfl⟩, .inl rfl, .inl rfl, trivial⟩) ?_
    refine Run.trim (T' := [(3, .mp 1), (5, .ptr 4 0), (8, .v (.slice pS S.length cS)), (9, ii (S.length : Int)), (10, ii ((i : Nat) : Int))]) (M' := [(4, .cells [ii S[i].fr, ii S[i].to, ii S[i].w, ii S[i].d] 126), (1, .kmap false true m)]) 5 ⟨⟨rfl, (show 1 < 5 by decide)⟩, ⟨rfl, (show 4 < 5 by decide)⟩, ⟨rfl, trivial⟩, ⟨rfl, trivial⟩, ⟨rfl, trivial⟩, trivial⟩ ⟨⟨rfl, by omega, by simp [SObj.sc, SV.scs, SV.sc]⟩, ⟨rfl, by omega, trivial⟩, trivial⟩ (fun p hp => by have := hJL p hp; omega) ?_
    refine Run.drawE (hc w0 L) rfl fun l hl => ?_
    obtain ⟨p, r, rfl, hp, hr, hex, hsp, hsr, hbef, haft, hcl⟩ := hl.split 9 (by decide)
    have b3 : 3 ∈ p := hbef 3 (tp_of rfl)
    have b4 : 4 ∈ p := hbef 4 (tp_of rfl)
    have b5 : 5 ∈ p := hbef 5 (tp_of rfl)
    have b6 : 6 ∈ p := hbef 6 (tp_of rfl)
    have b7 : 7 ∈ p := hbef 7 (tp_of rfl)
    have b8 : 8 ∈ p := hbef 8 (tp_of rfl)
    obtain ⟨a10, n10⟩ := haft 10 (tp_of rfl) (by decide)
    have dis : ∀ i, i < 11 → i ∈ p → i ∉ r := fun i hi hip => by
      by_cases e : i = 9
      · subst e; exact hsr
      · rcases hex i hi e with h | h
        · exact h.2
        · exact absurd hip h.1
    have inr : ∀ i, i < 11 → i ≠ 9 → i ∉ p → i ∈ r := fun i hi e hip => by
      rcases hex i hi e with h | h
      · exact absurd h.1 hip
      · exact h.2
    have hown := hJ.own S[i].fr
    obtain ⟨vp, vn, vc, hval⟩ : ∃ p n c, kval m S[i].fr = .slice p n c := by
      rcases hown.2 with ⟨h, _⟩ | ⟨g, cap, cur, h, _⟩
      · exact ⟨_, _, _, h⟩
      · exact ⟨_, _, _, h⟩
    have hval2 : (kget m (.i S[i].fr)).getD (.slice none 0 0) = .slice vp vn vc := hval
    have hlen := synAt_len S i S[i].fr
    have hsu := synAt_succ hi
    have next : ∀ (v' : Value) (w' : World) (L' : List (Nat × Nat)), w'.ownsRow 0 126 4 v' ((synAt (S.take i) S[i].fr).length + 1) ((synAt (S.take i) S[i].fr).flatMap Syn.vals ++ S[i].vals) → (∀ g, g < w0.heap.size → (kval m S[i].fr).ownBlock ≠ some g → (∀ p ∈ L, p.2 ≠ g) → w'.heap[g]? = w0.heap[g]?) → w0.heap.size ≤ w'.heap.size → w'.os = w0.os → w'.tape = w0.tape → w'.output = w0.output →
          (∀ g, v'.ownBlock = some g → ((kval m S[i].fr).ownBlock = some g ∨ w0.heap.size ≤ g) ∧ ∀ p ∈ L', p.2 ≠ g) → (∀ p ∈ L', (∃ q ∈ L, q.2 = p.2) ∨ w0.heap.size ≤ p.2) → WInv w S (i + 1) w' L' (kput m (.i S[i].fr) v') := by
      intro v' w' L' A1 A2 A3 A4 A5 A6 A7 A8
      have hw0 := hJ.ext.size
      have hlo : ∀ g, v'.ownBlock = some g → w.heap.size ≤ g := fun g hg => by
        rcases (A7 g hg).1 with h | h
        · exact (hown.lt g h).1
        · omega
      have hoth : ∀ k, k ≠ S[i].fr → ∀ g, (kval m k).ownBlock = some g → g < w0.heap.size ∧ w'.heap[g]? = w0.heap[g]? := fun k hk g hg => by
        have hlt := ((hJ.own k).lt g hg).2
        exact ⟨hlt, A2 g hlt (fun h => hJ.apart k S[i].fr g hk hg h) (hJ.off k g hg)⟩
      refine ⟨⟨fun k hk => ?_, Nat.le_trans hw0 A3, A4.trans hJ.ext.os, A5.trans hJ.ext.tape, A6.trans hJ.ext.output⟩, fun p hp => ?_, fun k => ?_, fun k g hg p hp => ?_, fun k k' g hne hg hg' => ?_⟩
      · rw [A2 k (by omega) (fun h => by have := (hown.lt k h).1; omega) (fun p hp => by have := (hJ.lid p hp); omega)]
        exact hJ.ext.keep k hk
      · rcases A8 p hp with ⟨q, hq, hqe⟩ | h
        · rw [← hqe]; exact (hJ.lid q hq)
        · omega
      · rw [kval_put, hsu k]
        by_cases e : k = S[i].fr
        · subst e
          rw [if_pos rfl, if_pos rfl, List.length_append, List.flatMap_append]
          refine ownsRow_up (b := 0) ?_ hlo
          simpa using A1
        · rw [if_neg e, if_neg (Ne.symm e), List.append_nil]
          exact ownsRow_of (hJ.own k) fun g hg => (hoth k e g hg).2
      · rw [kval_put] at hg
        split at hg
        · exact (A7 g hg).2 p hp
        · rename_i e
          have hlt := (hoth k e g hg).1
          rcases A8 p hp with ⟨q, hq, hqe⟩ | h
          · rw [← hqe]; exact hJ.off k g hg q hq
          · omega
      · rw [kval_put] at hg hg'
        split at hg
        · rename_i e1
          rw [if_neg (fun e2 => hne (e1.trans e2.symm))] at hg'
          have hlt := (hoth k' (fun e2 => hne (e1.trans e2.symm)) g hg').1
          rcases (A7 g hg).1 with h | h
          · exact hJ.apart S[i].fr k' g (fun e2 => hne (e1.trans e2)) h hg'
          · omega
        · rename_i e1
          split at hg'
          · rename_i e2
            have hlt := (hoth k e1 g hg).1
            rcases (A7 g hg').1 with h | h
            · exact hJ.apart k S[i].fr g e1 hg h
            · omega
          · exact hJ.apart k k' g hne hg hg'
    by_cases c0 : 0 ∈ p
    · by_cases c1 : 1 ∈ p
      · by_cases c2 : 2 ∈ p
        · refine Run.perm (hc w0 L) [0, 1, 2, 3, 4, 5, 6, 7, 8] [9, 10] hp ⟨c0, c1, c2, b3, b4, b5, b6, b7, b8, trivial⟩ ⟨hsp, n10, trivial⟩ (by decide) rfl ?_
          conv => whnf
          rw [hval2]
          conv => whnf
          refine ⟨by kernel_rfl, ?_⟩
          refine Run.appendH (hc w0 L) (x := .tmp 20) (y := .tmp 22) rfl rfl rfl rfl rfl (v := .slice vp vn vc) (by rw [← hval]; exact ownsRow_mono hown (Nat.zero_le _)) (by rw [← hval]; exact hJ.off _) (news := S[i].vals) rfl rfl rfl rfl rfl rfl rfl rfl rfl (by decide) (by omega) [1, 4] [(4, .cells [ii S[i].fr, ii S[i].to, ii S[i].w, ii S[i].d] 126), (1, .kmap false true m)] (AllP.mem ⟨⟨by omega, _, rfl, fun ρ w h => (by rcases h.2 with h1 | h1; exact h1.1; cases h1.1)⟩, ⟨by omega, _, rfl, fun ρ w h => trivial⟩, trivial⟩) (AllP.mem ⟨⟨rfl, .inl (by simp), rfl⟩, ⟨rfl, .inl (by simp), rfl⟩, trivial⟩) fun v' w' L' A1 A2 A3 A4 A5 A6 A7 A8 => ?_
          rw [← List.append_nil r]
          refine Run.perm (hc w' L') [10] [0, 1, 2, 3, 4, 5, 6, 7, 8, 9] hr ⟨a10, trivial⟩ ⟨dis 0 (by decide) c0, dis 1 (by decide) c1, dis 2 (by decide) c2, dis 3 (by decide) b3, dis 4 (by decide) b4, dis 5 (by decide) b5, dis 6 (by decide) b6, dis 7 (by decide) b7, dis 8 (by decide) b8, hsr, trivial⟩ (by decide) rfl ?_
          conv => whnf
          refine ⟨by kernel_rfl, ?_⟩
          refine Run.of_wpK (hc w' L') 1000 _ ?_
          conv => whnf
          rw [← hval] at A2 A7
          refine Run.chk [1] [(1, .kmap false true (kput m (.i S[i].fr) v'))] (AllP.mem ⟨⟨Nat.le_of_ble_eq_true rfl, _, rfl, fun ρ w h => (by rcases h.2 with h1 | h1; exact h1.1; cases h1.1)⟩, trivial⟩) (AllP.mem ⟨⟨rfl, .inl (by simp)⟩, trivial⟩) fun w2 L2 B1 B2 B3 B4 B5 B6 => ?_
          exact Run.trim (T' := [(3, .mp 1), (8, .v (.slice pS S.length cS)), (9, ii (S.length : Int)), (10, ii ((i + 1 : Nat) : Int))]) (M' := [(1, .kmap false true (kput m (.i S[i].fr) v'))]) 2 ⟨⟨rfl, (show 1 < 2 by decide)⟩, ⟨rfl, trivial⟩, ⟨rfl, trivial⟩, ⟨congrArg some (congrArg ii (wrap_succ (by omega))), trivial⟩, trivial⟩ ⟨⟨rfl, by omega, trivial⟩, trivial⟩ (fun q hq => by have := (B6 q hq).1; simp at this; omega) (ih (w2, L2, kput m (.i S[i].fr) v') ⟨(next v' w' L' A1 A2 A3 A4 A5 A6 A7 (fun q hq => (A8 q hq).2)).chk B1 B2 B3 B4 B5 (fun q hq => (B6 q hq).2), fun q hq => by simpa using (B6 q hq).1⟩)
        · refine Run.perm (hc w0 L) [0, 1, 3, 4, 5, 6, 7, 8] [2, 9, 10] hp ⟨c0, c1, b3, b4, b5, b6, b7, b8, trivial⟩ ⟨c2, hsp, n10, trivial⟩ (by decide) rfl ?_
          conv => whnf
          rw [hval2]
          conv => whnf
          refine ⟨by kernel_rfl, ?_⟩
          refine Run.appendH (hc w0 L) (x := .tmp 20) (y := .tmp 22) rfl rfl rfl rfl rfl (v := .slice vp vn vc) (by rw [← hval]; exact ownsRow_mono hown (Nat.zero_le _)) (by rw [← hval]; exact hJ.off _) (news := S[i].vals) rfl rfl rfl rfl rfl rfl rfl rfl rfl (by decide) (by omega) [1, 4] [(4, .cells [ii S[i].fr, ii S[i].to, ii S[i].w, ii S[i].d] 126), (1, .kmap false true m)] (AllP.mem ⟨⟨by omega, _, rfl, fun ρ w h => (by rcases h.2 with h1 | h1; exact h1.1; cases h1.1)⟩, ⟨by omega, _, rfl, fun ρ w h => trivial⟩, trivial⟩) (AllP.mem ⟨⟨rfl, .inl (by simp), rfl⟩, ⟨rfl, .inl (by simp), rfl⟩, trivial⟩) fun v' w' L' A1 A2 A3 A4 A5 A6 A7 A8 => ?_
          rw [← List.append_nil r]
          refine Run.perm (hc w' L') [2, 10] [0, 1, 3, 4, 5, 6, 7, 8, 9] hr ⟨inr 2 (by decide) (by decide) c2, a10, trivial⟩ ⟨dis 0 (by decide) c0, dis 1 (by decide) c1, dis 3 (by decide) b3, dis 4 (by decide) b4, dis 5 (by decide) b5, dis 6 (by decide) b6, dis 7 (by decide) b7, dis 8 (by decide) b8, hsr, trivial⟩ (by decide) rfl ?_
          conv => whnf
          refine ⟨by kernel_rfl, ?_⟩
          refine Run.of_wpK (hc w' L') 1000 _ ?_
          conv => whnf
          rw [← hval] at A2 A7
          refine Run.chk [1] [(1, .kmap false true (kput m (.i S[i].fr) v'))] (AllP.mem ⟨⟨Nat.le_of_ble_eq_true rfl, _, rfl, fun ρ w h => (by rcases h.2 with h1 | h1; exact h1.1; cases h1.1)⟩, trivial⟩) (AllP.mem ⟨⟨rfl, .inl (by simp)⟩, trivial⟩) fun w2 L2 B1 B2 B3 B4 B5 B6 => ?_
          exact Run.trim (T' := [(3, .mp 1), (8, .v (.slice pS S.length cS)), (9, ii (S.length : Int)), (10, ii ((i + 1 : Nat) : Int))]) (M' := [(1, .kmap false true (kput m (.i S[i].fr) v'))]) 2 ⟨⟨rfl, (show 1 < 2 by decide)⟩, ⟨rfl, trivial⟩, ⟨rfl, trivial⟩, ⟨congrArg some (congrArg ii (wrap_succ (by omega))), trivial⟩, trivial⟩ ⟨⟨rfl, by omega, trivial⟩, trivial⟩ (fun q hq => by have := (B6 q hq).1; simp at this; omega) (ih (w2, L2, kput m (.i S[i].fr) v') ⟨(next v' w' L' A1 A2 A3 A4 A5 A6 A7 (fun q hq => (A8 q hq).2)).chk B1 B2 B3 B4 B5 (fun q hq => (B6 q hq).2), fun q hq => by simpa using (B6 q hq).1⟩)
      · have c2 : 2 ∉ p := fun h => c1 (hcl 1 2 (tp_of rfl) h)
        refine Run.perm (hc w0 L) [0, 3, 4, 5, 6, 7, 8] [1, 2, 9, 10] hp ⟨c0, b3, b4, b5, b6, b7, b8, trivial⟩ ⟨c1, c2, hsp, n10, trivial⟩ (by decide) rfl ?_
        conv => whnf
        rw [hval2]
        conv => whnf
        refine ⟨by kernel_rfl, ?_⟩
        refine Run.appendH (hc w0 L) (x := .tmp 20) (y := .tmp 22) rfl rfl rfl rfl rfl (v := .slice vp vn vc) (by rw [← hval]; exact ownsRow_mono hown (Nat.zero_le _)) (by rw [← hval]; exact hJ.off _) (news := S[i].vals) rfl rfl rfl rfl rfl rfl rfl rfl rfl (by decide) (by omega) [1, 4] [(4, .cells [ii S[i].fr, ii S[i].to, ii S[i].w, ii S[i].d] 126), (1, .kmap false true m)] (AllP.mem ⟨⟨by omega, _, rfl, fun ρ w h => (by rcases h.2 with h1 | h1; exact h1.1; cases h1.1)⟩, ⟨by omega, _, rfl, fun ρ w h => trivial⟩, trivial⟩) (AllP.mem ⟨⟨rfl, .inl (by simp), rfl⟩, ⟨rfl, .inl (by simp), rfl⟩, trivial⟩) fun v' w' L' A1 A2 A3 A4 A5 A6 A7 A8 => ?_
        rw [← List.append_nil r]
        refine Run.perm (hc w' L') [1, 2, 10] [0, 3, 4, 5, 6, 7, 8, 9] hr ⟨inr 1 (by decide) (by decide) c1, inr 2 (by decide) (by decide) c2, a10, trivial⟩ ⟨dis 0 (by decide) c0, dis 3 (by decide) b3, dis 4 (by decide) b4, dis 5 (by decide) b5, dis 6 (by decide) b6, dis 7 (by decide) b7, dis 8 (by decide) b8, hsr, trivial⟩ (by decide) rfl ?_
        conv => whnf
        refine ⟨by kernel_rfl, ?_⟩
        refine Run.of_wpK (hc w' L') 1000 _ ?_
        conv => whnf
        rw [← hval] at A2 A7
        refine Run.chk [1] [(1, .kmap false true (kput m (.i S[i].fr) v'))] (AllP.mem ⟨⟨Nat.le_of_ble_eq_true rfl, _, rfl, fun ρ w h => (by rcases h.2 with h1 | h1; exact h1.1; cases h1.1)⟩, trivial⟩) (AllP.mem ⟨⟨rfl, .inl (by simp)⟩, trivial⟩) fun w2 L2 B1 B2 B3 B4 B5 B6 => ?_
        exact Run.trim (T' := [(3, .mp 1), (8, .v (.slice pS S.length cS)), (9, ii (S.length : Int)), (10, ii ((i + 1 : Nat) : Int))]) (M' := [(1, .kmap false true (kput m (.i S[i].fr) v'))]) 2 ⟨⟨rfl, (show 1 < 2 by decide)⟩, ⟨rfl, trivial⟩, ⟨rfl, trivial⟩, ⟨congrArg some (congrArg ii (wrap_succ (by omega))), trivial⟩, trivial⟩ ⟨⟨rfl, by omega, trivial⟩, trivial⟩ (fun q hq => by have := (B6 q hq).1; simp at this; omega) (ih (w2, L2, kput m (.i S[i].fr) v') ⟨(next v' w' L' A1 A2 A3 A4 A5 A6 A7 (fun q hq => (A8 q hq).2)).chk B1 B2 B3 B4 B5 (fun q hq => (B6 q hq).2), fun q hq => by simpa using (B6 q hq).1⟩)
    · by_cases c1 : 1 ∈ p
      · by_cases c2 : 2 ∈ p
        · refine Run.perm (hc w0 L) [1, 2, 3, 4, 5, 6, 7, 8] [0, 9, 10] hp ⟨c1, c2, b3, b4, b5, b6, b7, b8, trivial⟩ ⟨c0, hsp, n10, trivial⟩ (by decide) rfl ?_
          conv => whnf
          rw [hval2]
          conv => whnf
          refine ⟨by kernel_rfl, ?_⟩
          refine Run.appendH (hc w0 L) (x := .tmp 20) (y := .tmp 22) rfl rfl rfl rfl rfl (v := .slice vp vn vc) (by rw [← hval]; exact ownsRow_mono hown (Nat.zero_le _)) (by rw [← hval]; exact hJ.off _) (news := S[i].vals) rfl rfl rfl rfl rfl rfl rfl rfl rfl (by decide) (by omega) [1, 4] [(4, .cells [ii S[i].fr, ii S[i].to, ii S[i].w, ii S[i].d] 126), (1, .kmap false true m)] (AllP.mem ⟨⟨by omega, _, rfl, fun ρ w h => (by rcases h.2 with h1 | h1; exact h1.1; cases h1.1)⟩, ⟨by omega, _, rfl, fun ρ w h => trivial⟩, trivial⟩) (AllP.mem ⟨⟨rfl, .inl (by simp), rfl⟩, ⟨rfl, .inl (by simp), rfl⟩, trivial⟩) fun v' w' L' A1 A2 A3 A4 A5 A6 A7 A8 => ?_
          rw [← List.append_nil r]
          refine Run.perm (hc w' L') [0, 10] [1, 2, 3, 4, 5, 6, 7, 8, 9] hr ⟨inr 0 (by decide) (by decide) c0, a10, trivial⟩ ⟨dis 1 (by decide) c1, dis 2 (by decide) c2, dis 3 (by decide) b3, dis 4 (by decide) b4, dis 5 (by decide) b5, dis 6 (by decide) b6, dis 7 (by decide) b7, dis 8 (by decide) b8, hsr, trivial⟩ (by decide) rfl ?_
          conv => whnf
          refine ⟨by kernel_rfl, ?_⟩
          refine Run.of_wpK (hc w' L') 1000 _ ?_
          conv => whnf
          rw [← hval] at A2 A7
          refine Run.chk [1] [(1, .kmap false true (kput m (.i S[i].fr) v'))] (AllP.mem ⟨⟨Nat.le_of_ble_eq_true rfl, _, rfl, fun ρ w h => (by rcases h.2 with h1 | h1; exact h1.1; cases h1.1)⟩, trivial⟩) (AllP.mem ⟨⟨rfl, .inl (by simp)⟩, trivial⟩) fun w2 L2 B1 B2 B3 B4 B5 B6 => ?_
          exact Run.trim (T' := [(3, .mp 1), (8, .v (.slice pS S.length cS)), (9, ii (S.length : Int)), (10, ii ((i + 1 : Nat) : Int))]) (M' := [(1, .kmap false true (kput m (.i S[i].fr) v'))]) 2 ⟨⟨rfl, (show 1 < 2 by decide)⟩, ⟨rfl, trivial⟩, ⟨rfl, trivial⟩, ⟨congrArg some (congrArg ii (wrap_succ (by omega))), trivial⟩, trivial⟩ ⟨⟨rfl, by omega, trivial⟩, trivial⟩ (fun q hq => by have := (B6 q hq).1; simp at this; omega) (ih (w2, L2, kput m (.i S[i].fr) v') ⟨(next v' w' L' A1 A2 A3 A4 A5 A6 A7 (fun q hq => (A8 q hq).2)).chk B1 B2 B3 B4 B5 (fun q hq => (B6 q hq).2), fun q hq => by simpa using (B6 q hq).1⟩)
        · refine Run.perm (hc w0 L) [1, 3, 4, 5, 6, 7, 8] [0, 2, 9, 10] hp ⟨c1, b3, b4, b5, b6, b7, b8, trivial⟩ ⟨c0, c2, hsp, n10, trivial⟩ (by decide) rfl ?_
          conv => whnf
          rw [hval2]
          conv => whnf
          refine ⟨by kernel_rfl, ?_⟩
          refine Run.appendH (hc w0 L) (x := .tmp 20) (y := .tmp 22) rfl rfl rfl rfl rfl (v := .slice vp vn vc) (by rw [← hval]; exact ownsRow_mono hown (Nat.zero_le _)) (by rw [← hval]; exact hJ.off _) (news := S[i].vals) rfl rfl rfl rfl rfl rfl rfl rfl rfl (by decide) (by omega) [1, 4] [(4, .cells [ii S[i].fr, ii S[i].to, ii S[i].w, ii S[i].d] 126), (1, .kmap false true m)] (AllP.mem ⟨⟨by omega, _, rfl, fun ρ w h => (by rcases h.2 with h1 | h1; exact h1.1; cases h1.1)⟩, ⟨by omega, _, rfl, fun ρ w h => trivial⟩, trivial⟩) (AllP.mem ⟨⟨rfl, .inl (by simp), rfl⟩, ⟨rfl, .inl (by simp), rfl⟩, trivial⟩) fun v' w' L' A1 A2 A3 A4 A5 A6 A7 A8 => ?_
          rw [← List.append_nil r]
          refine Run.perm (hc w' L') [0, 2, 10] [1, 3, 4, 5, 6, 7, 8, 9] hr ⟨inr 0 (by decide) (by decide) c0, inr 2 (by decide) (by decide) c2, a10, trivial⟩ ⟨dis 1 (by decide) c1, dis 3 (by decide) b3, dis 4 (by decide) b4, dis 5 (by decide) b5, dis 6 (by decide) b6, dis 7 (by decide) b7, dis 8 (by decide) b8, hsr, trivial⟩ (by decide) rfl ?_
          conv => whnf
          refine ⟨by kernel_rfl, ?_⟩
          refine Run.of_wpK (hc w' L') 1000 _ ?_
          conv => whnf
          rw [← hval] at A2 A7
          refine Run.chk [1] [(1, .kmap false true (kput m (.i S[i].fr) v'))] (AllP.mem ⟨⟨Nat.le_of_ble_eq_true rfl, _, rfl, fun ρ w h => (by rcases h.2 with h1 | h1; exact h1.1; cases h1.1)⟩, trivial⟩) (AllP.mem ⟨⟨rfl, .inl (by simp)⟩, trivial⟩) fun w2 L2 B1 B2 B3 B4 B5 B6 => ?_
          exact Run.trim (T' := [(3, .mp 1), (8, .v (.slice pS S.length cS)), (9, ii (S.length : Int)), (10, ii ((i + 1 : Nat) : Int))]) (M' := [(1, .kmap false true (kput m (.i S[i].fr) v'))]) 2 ⟨⟨rfl, (show 1 < 2 by decide)⟩, ⟨rfl, trivial⟩, ⟨rfl, trivial⟩, ⟨congrArg some (congrArg ii (wrap_succ (by omega))), trivial⟩, trivial⟩ ⟨⟨rfl, by omega, trivial⟩, trivial⟩ (fun q hq => by have := (B6 q hq).1; simp at this; omega) (ih (w2, L2, kput m (.i S[i].fr) v') ⟨(next v' w' L' A1 A2 A3 A4 A5 A6 A7 (fun q hq => (A8 q hq).2)).chk B1 B2 B3 B4 B5 (fun q hq => (B6 q hq).2), fun q hq => by simpa using (B6 q hq).1⟩)
      · have c2 : 2 ∉ p := fun h => c1 (hcl 1 2 (tp_of rfl) h)
        refine Run.perm (hc w0 L) [3, 4, 5, 6, 7, 8] [0, 1, 2, 9, 10] hp ⟨b3, b4, b5, b6, b7, b8, trivial⟩ ⟨c0, c1, c2, hsp, n10, trivial⟩ (by decide) rfl ?_
        conv => whnf
        rw [hval2]
        conv => whnf
        refine ⟨by kernel_rfl, ?_⟩
        refine Run.appendH (hc w0 L) (x := .tmp 20) (y := .tmp 22) rfl rfl rfl rfl rfl (v := .slice vp vn vc) (by rw [← hval]; exact ownsRow_mono hown (Nat.zero_le _)) (by rw [← hval]; exact hJ.off _) (news := S[i].vals) rfl rfl rfl rfl rfl rfl rfl rfl rfl (by decide) (by omega) [1, 4] [(4, .cells [ii S[i].fr, ii S[i].to, ii S[i].w, ii S[i].d] 126), (1, .kmap false true m)] (AllP.mem ⟨⟨by omega, _, rfl, fun ρ w h => (by rcases h.2 with h1 | h1; exact h1.1; cases h1.1)⟩, ⟨by omega, _, rfl, fun ρ w h => trivial⟩, trivial⟩) (AllP.mem ⟨⟨rfl, .inl (by simp), rfl⟩, ⟨rfl, .inl (by simp), rfl⟩, trivial⟩) fun v' w' L' A1 A2 A3 A4 A5 A6 A7 A8 => ?_
        rw [← List.append_nil r]
        refine Run.perm (hc w' L') [0, 1, 2, 10] [3, 4, 5, 6, 7, 8, 9] hr ⟨inr 0 (by decide) (by decide) c0, inr 1 (by decide) (by decide) c1, inr 2 (by decide) (by decide) c2, a10, trivial⟩ ⟨dis 3 (by decide) b3, dis 4 (by decide) b4, dis 5 (by decide) b5, dis 6 (by decide) b6, dis 7 (by decide) b7, dis 8 (by decide) b8, hsr, trivial⟩ (by decide) rfl ?_
        conv => whnf
        refine ⟨by kernel_rfl, ?_⟩
        refine Run.of_wpK (hc w' L') 1000 _ ?_
        conv => whnf
        rw [← hval] at A2 A7
        refine Run.chk [1] [(1, .kmap false true (kput m (.i S[i].fr) v'))] (AllP.mem ⟨⟨Nat.le_of_ble_eq_true rfl, _, rfl, fun ρ w h => (by rcases h.2 with h1 | h1; exact h1.1; cases h1.1)⟩, trivial⟩) (AllP.mem ⟨⟨rfl, .inl (by simp)⟩, trivial⟩) fun w2 L2 B1 B2 B3 B4 B5 B6 => ?_
        exact Run.trim (T' := [(3, .mp 1), (8, .v (.slice pS S.length cS)), (9, ii (S.length : Int)), (10, ii ((i + 1 : Nat) : Int))]) (M' := [(1, .kmap false true (kput m (.i S[i].fr) v'))]) 2 ⟨⟨rfl, (show 1 < 2 by decide)⟩, ⟨rfl, trivial⟩, ⟨rfl, trivial⟩, ⟨congrArg some (congrArg ii (wrap_succ (by omega))), trivial⟩, trivial⟩ ⟨⟨rfl, by omega, trivial⟩, trivial⟩ (fun q hq => by have := (B6 q hq).1; simp at this; omega) (ih (w2, L2, kput m (.i S[i].fr) v') ⟨(next v' w' L' A1 A2 A3 A4 A5 A6 A7 (fun q hq => (A8 q hq).2)).chk B1 B2 B3 B4 B5 (fun q hq => (B6 q hq).2), fun q hq => by simpa using (B6 q hq).1⟩)
  · rintro ⟨w0, L, m⟩ ⟨hJ, hJL⟩
    simp only at hJ hJL ⊢
    refine Run.of_wpK (hc w0 L) 1000 _ ?_
    conv => whnf
    rw [decide_eq_false (show ¬ ((S.length : Nat) : Int) < (S.length : Int) by omega)]
    conv => whnf
    refine ⟨fun ρ w' hW _ => ?_⟩
    obtain ⟨_, _, hk, hm⟩ := hW.mem 1 _ rfl
    rcases hm with ⟨h0, h1⟩ | ⟨h0, _⟩
    case inr => cases h0
    have hlt := (Array.getElem?_eq_some_iff.1 h1).1
    have hb : w.heap.size ≤ ρ.s 1 := by
      rcases hW.new 1 _ rfl h0 with ⟨p, hp, he⟩ | h
      · rw [← he]; exact (hJ.lid p hp)
      · have h : w0.heap.size ≤ ρ.s 1 := h
        have := hJ.ext.size; omega
    refine ⟨ρ.s 1, by show Ending.returned (.map (if ρ.o 1 = 0 then some (ρ.s 1) else none)) = _; rw [if_pos h0], ⟨fun k hk => ?_, Nat.le_trans hJ.ext.size hW.size, hW.os.trans hJ.ext.os, hW.tape.trans hJ.ext.tape, hW.output.trans hJ.ext.output⟩, ⟨hb, hlt⟩, m, h1, hk, fun k => ?_⟩
    · rw [hW.keep k (show k < w0.heap.size by have := hJ.ext.size; omega) (fun p hp => by have := (hJ.lid p hp); omega)]
      exact hJ.ext.keep k hk
    · have ho := hJ.own k
      rw [List.take_length] at ho
      refine ⟨ho.1, ?_⟩
      show ∃ p c, kval m k = _ ∧ _
      rcases ho.2 with ⟨h2, h3⟩ | ⟨g, cap, cur, h2, h3, h4, h5, h6, h7, h8⟩
      · exact ⟨none, 0, by show kval m k = .slice none (synAt S k).length 0; rw [h2, h3], by show (synAt S k).length ≤ 0; omega, .inl h3⟩
      · have hg : (kval m k).ownBlock = some g := by rw [h2]; rfl
        have hgl := ((hJ.own k).lt g hg).2
        refine ⟨some ⟨g, 0, none⟩, cap, h2, h5, .inr ⟨g, 0, rfl, ⟨h3, Nat.lt_of_lt_of_le hgl hW.size⟩, fun j x hj => ?_⟩⟩
        have hj' := ho.cells (g := g) (by rw [h2]; rfl) j x hj
        rw [addr_add] at hj'
        rw [World.cell?_of_block (hW.keep g hgl (hJ.off k g hg))]
        exact hj'
end Go.Proofs.Ythaigkamfnjfbaa
namespace Go.Sx
theorem Run.raw {c : Cx} {T : List (Nat × SV)} {M : List (Nat × SObj)} {n : Nat} {D : List Deferred} {todo : List Item} {R : Ending → World → Prop}
    (h : ∀ ρ w', WI c.w0 c.L ρ (look M) (· < n) w' → Run { c with w0 := w', L := [] } ⟨T.map fun x => (x.1, .v (x.2.conc ρ)), [], 0, D, todo⟩ R) : Run c ⟨T, M, n, D, todo⟩ R := by
  refine ⟨fun ρ a w hi => (h ρ w hi.wi).go ρ a w ⟨hi.sz, fun t v ht => ?_, hi.df, WI.start w ρ⟩⟩
  have hl := look_map (fun y : SV => SV.v (y.conc ρ)) T t
  simp only at ht
  rw [hl] at ht
  cases hy : look T t with
  | none => rw [hy] at ht; cases ht
  | some y =>
    rw [hy] at ht
    obtain rfl : SV.v (y.conc ρ) = v := by simpa using ht
    obtain ⟨g1, g2, _⟩ := hi.tm t y hy
    exact ⟨g1, g2, trivial⟩
section
variable {c : Cx} {T : List (Nat × SV)} {M : List (Nat × SObj)} {n : Nat} {D : List Deferred} {ops : Array Oper} {i : Nat} {r : List Nat} {k : List Item} {R : Ending → World → Prop} {o : Oper}
theorem Run.indexW (hc : c.ok) {t : TypeId} {x y : Operand} (ho : get ops.toList i = some o) (hop : o.op = .indexAddr t x y) (hw : wantS ops.toList (look T) o = some true) (hd : okD c.fn.ntmps o.dst = true)
    {blk off len cap sz : Nat} {kk : IntKind} {j : Int} (m : Nat) (hx : ev (look T) x = some (.v (.slice (some ⟨blk, off, none⟩) len cap))) (hy : ev (look T) y = some (.v (.int kk j))) (hj : j = (m : Int)) (hm : m < len)
    {ti : TI} {te : TypeId} {bytes : Nat} (hti : look c.tab t = some ti) (hsh : ti.sh = .slc te sz bytes)
    (h : Run c ⟨putS T o.dst (.v (.pointer (some ⟨blk, off + m * sz, none⟩))), M, n, D, .inRegion ops r :: k⟩ R) : Run c ⟨T, M, n, D, .inRegion ops (i :: r) :: k⟩ R := by
  subst hj
  refine ⟨fun ρ a w hi => ?_⟩
  rw [get_eq, Array.getElem?_toList] at ho
  refine TW.op ho (wantS_ok hi.tm hw) ?_
  obtain ⟨h1, _⟩ := ev_ok hi.tm hx
  obtain ⟨h2, _⟩ := ev_ok hi.tm hy
  simp only [SV.conc] at h1 h2
  have hti := Tab.ok_look hc.tab hti
  obtain ⟨d, hd1, hd2⟩ := hti.desc
  obtain ⟨inf, rfl, g2, g3, _⟩ := sh_desc.2.2.2.2.1 te sz bytes (hd2.trans hsh)
  have hm' : (0 : Int) ≤ (m : Int) ∧ (m : Int) < (len : Int) := by omega
  refine Oc.value (w' := w) (v := .pointer (some ⟨blk, off + m * sz, none⟩)) (by simp [execOp, hop, Instr.indexAt, h1, h2, asIntOf, run_und hd1, hm, run_szOf g2, g3, addr_add]) ?_
  exact h.go ρ _ w (hi.put hd (Env.agree.refl _ ρ) (Nat.le_refl _) (v := .v (.pointer (some ⟨blk, off + m * sz, none⟩))) trivial hi.wi _)
theorem Run.loadW (hc : c.ok) {t : TypeId} {x : Operand} (ho : get ops.toList i = some o) (hop : o.op = .load t x) (hw : wantS ops.toList (look T) o = some true) (hd : okD c.fn.ntmps o.dst = true)
    {blk off : Nat} (vs : List Value) (hx : ev (look T) x = some (.v (.pointer (some ⟨blk, off, none⟩)))) {ti : TI} (hti : look c.tab t = some ti) (hag : ti.sh.isAgg = true) (hL : ∀ p ∈ c.L, p.2 ≠ blk) (hl : vs.length = ti.size) (h0 : 0 < vs.length) (hv : ∀ j v, vs[j]? = some v → c.w0.cell? ⟨blk, off + j, none⟩ = some v)
    (h : Run c ⟨putS T o.dst (.agg (vs.map .v)), M, n, D, .inRegion ops r :: k⟩ R) : Run c ⟨T, M, n, D, .inRegion ops (i :: r) :: k⟩ R := by
  refine ⟨fun ρ a w hi => ?_⟩
  rw [get_eq, Array.getElem?_toList] at ho
  refine TW.op ho (wantS_ok hi.tm hw) ?_
  obtain ⟨h1, _⟩ := ev_ok hi.tm hx
  simp only [SV.conc] at h1
  have hti := Tab.ok_look hc.tab hti
  have hlt := World.block_lt_of_cell? _ _ (hv 0 vs[0] (by simp))
  have hcell : ∀ j v, vs[j]? = some v → w.cell? ⟨blk, off + j, none⟩ = some v := fun j v hj => by
    rw [World.cell?_of_block (hi.wi.keep blk hlt hL)]; exact hv j v hj
  refine Oc.value (w' := w) (v := .agg vs.toArray) (by simp [execOp, hop, Instr.loadAt, Instr.sureAddr, h1, run_loadVar_agg hti hag hl hcell]) ?_
  have e : (SV.agg (vs.map .v)).conc ρ = .agg vs.toArray := by simp only [SV.conc, concs_v]
  have := hi.put (ρ' := ρ) hd (Env.agree.refl _ ρ) (Nat.le_refl _) (v := .agg (vs.map .v)) (scs_v _ _) hi.wi (.inRegion ops r :: k)
  rw [e] at this
  exact h.go ρ _ w this
theorem Run.lookupV (hc : c.ok) {x y : Operand} {t : TypeId} (ho : get ops.toList i = some o) (hop : o.op = .lookup t x y false) (hw : wantS ops.toList (look T) o = some true) (hd : okD c.fn.ntmps o.dst = true)
    {kt et : TypeId} {tk : TI} {z : Value} (hki : kinfo c.tab t = some (kt, tk, et, z)) {kv : SV} (hy : ev (look T) y = some kv) {key : Key} (hks : keyS tk kv = some key) {s : Nat} {m : List (Key × Value)} (hx : ev (look T) x = some (.v (.map (some s)))) (hm : c.w0.heap[s]? = some (kobj m)) (hmk : ∀ x ∈ m, x.1.pair = key.pair) (hL : ∀ p ∈ c.L, p.2 ≠ s)
    (h : Run c ⟨putS T o.dst (.v ((kget m key).getD z)), M, n, D, .inRegion ops r :: k⟩ R) : Run c ⟨T, M, n, D, .inRegion ops (i :: r) :: k⟩ R := by
  refine ⟨fun ρ a w hi => ?_⟩
  rw [get_eq, Array.getElem?_toList] at ho
  refine TW.op ho (wantS_ok hi.tm hw) ?_
  obtain ⟨ht, hk, hz⟩ := kinfo_ok hc.tab hki
  obtain ⟨k1, k2⟩ := keyS_ok hks
  obtain ⟨h1, _⟩ := ev_ok hi.tm hy
  rw [k1 ρ] at h1
  obtain ⟨h2, _⟩ := ev_ok hi.tm hx
  simp only [SV.conc] at h2
  have hlt := (Array.getElem?_eq_some_iff.1 hm).1
  have hr := lookup_run (w := w) (ρ := ρ) ht hk hz k2 (l := m) hmk (m := some s) (.inr ⟨_, rfl, by rw [hi.wi.keep _ hlt hL]; exact hm⟩) false
  simp only [lookR, SV.conc] at hr
  refine Oc.value (w' := w) (v := (kget m key).getD z) (by simp [execOp, hop, h1, h2, hr]) ?_
  exact h.go ρ _ w (hi.put hd (Env.agree.refl _ ρ) (Nat.le_refl _) (v := .v ((kget m key).getD z)) trivial hi.wi _)
end
/-- An iterator, that a range over a function calls: where I stands it calls yield with these, one after the other. No round changes blocks from N0 on that are there when it begins. -/
def IterN (P : Program) (g : FuncId) (caps : List Value) (I : World → Prop) (xs : List (List Value)) : Prop :=
  ∀ (l N0 : Nat) (J : Nat → World → Prop), (∀ i w w', J i w → Ext w w' → J i w') → (∀ i w, J i w → I w ∧ N0 ≤ w.heap.size) →
    (∀ i w x, J i w → xs[i]? = some x → Yields P l x.toArray w fun b w' => b = true ∧ J (i + 1) w' ∧ w.heap.size ≤ w'.heap.size ∧ ∀ k, N0 ≤ k → k < w.heap.size → w'.heap[k]? = w.heap[k]?) →
    ∀ w, J 0 w → Calls P g (#[.func (.yield l) #[] #[]] ++ caps.toArray) w fun e w' => (∃ v, e = .returned v) ∧ J xs.length w'
theorem WI.enterN {w0 w : World} {L : List (Nat × Nat)} {ρ : Env} {M : List (Nat × SObj)} {n : Nat} (hW : WI w0 L ρ (look M) (· < n) w) (is : List Nat) (hM : ∀ x ∈ M, look M x.1 = some x.2 ∧ (x.2.wnd = true ∨ x.1 ∈ is) ∧ (x.2.wnd = true → x.1 ∉ is)) :
    ∃ L', (∀ p ∈ L', p.1 ∈ is ∧ p.2 = ρ.s p.1 ∧ ∃ o, look M p.1 = some o ∧ o.occ ρ p.1) ∧ (∀ i ∈ is, ∀ o, look M i = some o → o.occ ρ i → (i, ρ.s i) ∈ L') ∧ WI w L' ρ (look M) (· < n) w := by
  classical
  let L' : List (Nat × Nat) := (is.filter fun i => decide (∃ o, look M i = some o ∧ o.occ ρ i)).map fun i => (i, ρ.s i)
  have hL' : ∀ p ∈ L', p.1 ∈ is ∧ p.2 = ρ.s p.1 ∧ ∃ o, look M p.1 = some o ∧ o.occ ρ p.1 := by
    intro p hp
    obtain ⟨i, hi, rfl⟩ := List.mem_map.1 hp
    obtain ⟨h1, h2⟩ := List.mem_filter.1 hi
    exact ⟨h1, rfl, of_decide_eq_true h2⟩
  have hin : ∀ i ∈ is, ∀ o, look M i = some o → o.occ ρ i → (i, ρ.s i) ∈ L' := fun i hi o ho hocc => List.mem_map.2 ⟨i, List.mem_filter.2 ⟨hi, decide_eq_true ⟨o, ho, hocc⟩⟩, rfl⟩
  refine ⟨L', hL', hin, ?_⟩
  have hid : ρ.ren id = ρ := rfl
  have h := hW.again ((Ext.refl w).modF fun _ => False) id L' M n (fun p hp => ?_) (fun x hx => ?_) (fun _ _ _ _ h => h)
  · rw [hid] at h; exact h
  · obtain ⟨h1, h2, o, h3, h4⟩ := hL' p hp
    exact ⟨(hW.mem _ _ h3).1, h2, ⟨_, look_mem h3, rfl⟩, o, h3, h4⟩
  · obtain ⟨h1, h2, h3⟩ := hM x hx
    obtain ⟨g1, g2, _⟩ := hW.mem _ _ h1
    refine ⟨g1, g2, fun ho => ?_, x.2, h1, by rw [oren_id]; exact .inl rfl, ?_, fun hwd p hp he => h3 hwd (by rw [← he]; exact (hL' p hp).1)⟩
    · rw [hid] at ho
      rcases h2 with h5 | h5
      · exfalso
        cases hx2 : x.2 <;> rw [hx2] at h5 ho <;> first | cases h5; done | exact ho.elim
      · exact ⟨_, hin x.1 h5 _ h1 ho, rfl⟩
    · cases x.2 <;> simp [SObj.away]
theorem oren_on {S : Nat → Prop} {r : Nat → Nat} (h : ∀ i, S i → r i = i) {o : SObj} (ho : o.sc S) : o.ren r = o := by
  cases o with
  | cells cs t => simp only [SObj.ren]; rw [rens_fix h cs ho]
  | row e n xs t => simp only [SObj.ren]; rw [rens_fix h xs ho]
  | mid pre post cs t => simp only [SObj.ren]; rw [rens_fix h cs ho]
  | pin l =>
    simp only [SObj.ren]
    congr 1
    have : l.map (fun p => (r p.1, p.2)) = l.map id := List.map_congr_left fun p hp => by simp [h _ (ho p hp)]
    rw [this, List.map_id]
  | _ => rfl
/-- A range over such an iterator. 'is': the numbers of what a round may write; 'Mi i': what is told after i rounds. -/
theorem Run.rangeX {c : Cx} (hrd : c.rd = none) {T T0 : List (Nat × SV)} {M : List (Nat × SObj)} {n : Nat} {k : List Item} {R : Ending → World → Prop} {x : Operand} {params : Array Tmp} {assign body : Code} {g : FuncId} {caps : List SV} {fv : SV}
    (hx : ev (look T) x = some fv) (hfv : calleeOf fv = some (g, caps)) (hg : Enters c.P g) (Mi : Nat → List (Nat × SObj)) (is : List Nat) (xs : List (List Value))
    (hp : params.toList.Nodup) (hp2 : ∀ t ∈ params.toList, t < c.fn.ntmps) (hxs : ∀ v ∈ xs, v.length = params.size)
    (hT0 : ∀ y ∈ T0, look T y.1 = some y.2) (hM0 : ∀ y ∈ Mi 0, look M y.1 = some y.2)
    (hMi : ∀ i, ∀ y ∈ Mi i, look (Mi i) y.1 = some y.2 ∧ y.1 < n ∧ y.2.sc (· < n + 2) ∧ (y.2.wnd = true ∧ y.1 ∉ is ∧ (∀ j, look (Mi j) y.1 = some y.2) ∨ y.2.wnd = false ∧ y.1 ∈ is ∧ ∃ o0, look (Mi 0) y.1 = some o0 ∧ ∀ ρ, y.2.occ ρ y.1 → o0.occ ρ y.1)) (hisn : ∀ i ∈ is, i < n)
    (I : Env → World → World → Prop) (hit : ∀ ρ w, WI c.w0 c.L ρ (look M) (· < n) w → IterN c.P g (SV.concs ρ caps) (I ρ w) xs)
    (hI : ∀ ρ w i L' ρ' a d w', WI c.w0 c.L ρ (look M) (· < n) w → Widens c.w0 c.L L' → WI c.w0 L' ρ' (look (inLoop n a c.f params assign body d (Mi i))) (· < n + 2) w' → Env.agree (· < n) ρ ρ' → I ρ w w')
    (hround : ∀ i v, xs[i]? = some v → ∀ w1 L1 l a d pl, (∀ p ∈ L1, p.1 = n + 1 ∨ p.1 = n ∨ p.1 ∈ is) → (n + 1, l) ∈ L1 → Covers (n + 2) pl → Run { c with w0 := w1, L := L1, rd := some (n + 1, l) } ⟨params.toList.zip (v.map .v) ++ T0, (n + 2, .pin pl) :: inLoop n a c.f params assign body d (Mi i), n + 3, [], [.code assign, .beginRound, .code body]⟩
      (fun e w' => e = .returned (.bool true) ∧ ∃ ρ, WI w1 L1 ρ (look ((n + 2, .pin pl) :: inLoop n a c.f params assign body d (Mi (i + 1)))) (· < n + 3) w'))
    (hafter : ∀ L' a d, Widens c.w0 c.L L' → (n, d) ∈ L' → (∀ p ∈ L', p.1 = n + 1 ∨ p.1 = n ∨ p ∈ c.L) → Run { c with L := L' } ⟨T0, (n + 1, .obj (.loop { loopOf a c.f params assign body d with state := .exhausted })) :: inLoop n a c.f params assign body d (Mi xs.length), n + 2, [{ target := .collected d, args := #[] }], k⟩ R) :
    Run c ⟨T, M, n, [], .code (.rangeFunc x params assign body) :: k⟩ R := by
  refine ⟨fun ρ a w hi => ?_⟩
  have hrr : c.rr = none := by simp [Cx.rr, hrd]
  rw [hrr]
  obtain ⟨h1, h2⟩ := ev_ok hi.tm hx
  obtain ⟨h3, h4⟩ := calleeOf_ok (ρ := ρ) (S := (· < n)) hfv
  refine TW.rangeFunc hg (h1.trans h3) ?_
  obtain ⟨hW1, ha1⟩ := hi.wi.alloc (i := n) (Nat.lt_irrefl n) (o := .obj (.deferred (some []))) (x := .deferred (some [])) trivial (fun ρ' w' _ hs _ hh => ⟨fun _ _ _ => by simp, by rw [hs]; exact hh⟩)
  obtain ⟨hW2, ha2⟩ := hW1.alloc (i := n + 1) (by simp) (o := .obj (.loop (loopOf a c.f params assign body w.heap.size))) (x := .loop (loopOf a c.f params assign body w.heap.size)) trivial (fun ρ' w' _ hs _ hh => ⟨fun _ _ _ => by simp, by rw [hs]; exact hh⟩)
  have hag2 : Env.agree (· < n) ρ ((ρ.bind n w.heap.size).bind (n + 1) (w.alloc (.deferred (some []))).heap.size) := ha1.trans ha2 fun _ h => .inl h
  generalize hρ : ((ρ.bind n w.heap.size).bind (n + 1) (w.alloc (.deferred (some []))).heap.size) = ρ2 at hW2 ha2 hag2
  have hl : ρ2.s (n + 1) = w.heap.size + 1 := by subst hρ; simp [Env.bind]
  have hd : ρ2.s n = w.heap.size := by subst hρ; simp [Env.bind]
  have hW : WI c.w0 c.L ρ2 (look (inLoop n a c.f params assign body w.heap.size M)) (· < n + 2) (World.loop w a c.f params assign body) := by
    simp only [inLoop, look_upd]
    exact hW2.mono fun j hj => by have hj : (j < n ∨ j = n) ∨ j = n + 1 := hj; omega
  let L' : List (Nat × Nat) := (n + 1, w.heap.size + 1) :: (n, w.heap.size) :: c.L
  have hL' : ∀ p ∈ L', p.1 = n + 1 ∨ p.1 = n ∨ p ∈ c.L := by
    intro p hp
    simp only [L', List.mem_cons] at hp
    rcases hp with rfl | rfl | hp
    · exact .inl rfl
    · exact .inr (.inl rfl)
    · exact .inr (.inr hp)
  have hwid : Widens c.w0 c.L L' := ⟨fun p hp => by simp [L', hp], fun p hp => by
    simp only [L', List.mem_cons] at hp
    have := hi.wi.size
    rcases hp with rfl | rfl | hp
    · right; show c.w0.heap.size ≤ w.heap.size + 1; omega
    · right; exact this
    · exact .inl ⟨p, hp, rfl⟩⟩
  have hWL := hW.widen hwid (fun p hp => by
    simp only [L', List.mem_cons] at hp
    rcases hp with rfl | rfl | hp
    · exact ⟨by show n + 1 < n + 2; omega, hl⟩
    · exact ⟨by show n < n + 2; omega, hd⟩
    · exact hW.lid p hp)
  have hlk : ∀ i j, j < n → look (inLoop n a c.f params assign body w.heap.size (Mi i)) j = look (Mi i) j := fun i j hj => by
    rw [inLoop, look_cons, if_neg (by omega), look_cons, if_neg (by omega)]
  have hW0 : WI c.w0 L' ρ2 (look (inLoop n a c.f params assign body w.heap.size (Mi 0))) (· < n + 2) (World.loop w a c.f params assign body) := by
    have hsub : ∀ j o, look (inLoop n a c.f params assign body w.heap.size (Mi 0)) j = some o → look (inLoop n a c.f params assign body w.heap.size M) j = some o := by
      intro j o hj
      rw [inLoop, look_cons] at hj ⊢
      split at hj
      · rename_i e; rw [if_pos e]; exact hj
      · rename_i e
        rw [if_neg e]
        rw [look_cons] at hj ⊢
        split at hj
        · rename_i e2; rw [if_pos e2]; exact hj
        · rename_i e2
          rw [if_neg e2]
          exact hM0 _ (look_mem hj)
    exact ⟨fun j o hj => hWL.mem j o (hsub j o hj), fun j j' o o' hj hj' => hWL.dist j j' o o' (hsub j o hj) (hsub j' o' hj'), fun j o hj => hWL.new j o (hsub j o hj), hWL.lid, hWL.keep, hWL.size, hWL.os, hWL.tape, hWL.output⟩
  let W0 : World := World.loop w a c.f params assign body
  let J : Nat → World → Prop := fun i w' => ∃ ρ', WI c.w0 L' ρ' (look (inLoop n a c.f params assign body w.heap.size (Mi i))) (· < n + 2) w' ∧ Env.agree (· < n + 2) ρ2 ρ' ∧ W0.heap.size ≤ w'.heap.size
  have hTm : ∀ (ρ' : Env), Env.agree (· < n + 2) ρ2 ρ' → ∀ t v, look T0 t = some v → t < a.tmps.size ∧ a.tmps.getD t undef = v.conc ρ' ∧ v.sc (· < n) := by
    intro ρ' hag t v ht
    obtain ⟨g1, g2, g3⟩ := hi.tm t v (hT0 _ (look_mem ht))
    have hag' : Env.agree (· < n) ρ ρ' := hag2.trans (hag.mono (fun j (hj : j < n) => by show j < n + 2; omega)) fun _ h => h
    exact ⟨g1, by rw [conc_agree hag' v g3]; exact g2, g3⟩
  have hcalls := hit ρ w hi.wi (w.heap.size + 1) W0.heap.size J (fun i w1 w2 ⟨ρ', h, hag, hs⟩ he => ⟨ρ', h.ext he, hag, Nat.le_trans hs he.size⟩)
    (fun i w1 ⟨ρ', h, hag, hs⟩ => ⟨hI ρ w i L' ρ' a w.heap.size w1 hi.wi hwid h (hag2.trans (hag.mono (fun j (hj : j < n) => by show j < n + 2; omega)) fun _ h => h), hs⟩) ?_ _ ⟨ρ2, hW0, Env.agree.refl _ _, Nat.le_refl _⟩
  · refine hcalls.mono fun e w' ⟨⟨v, he⟩, ρ', hW', hag, hs⟩ => ⟨v, he, ?_⟩
    have e1 : ρ'.s (n + 1) = w.heap.size + 1 := (hW'.lid (n + 1, w.heap.size + 1) (by simp [L'])).2
    have hm : (look (inLoop n a c.f params assign body w.heap.size (Mi xs.length))) (n + 1) = some (.obj (.loop (loopOf a c.f params assign body w.heap.size))) := by
      rw [inLoop, look_cons, if_pos rfl]
    obtain ⟨_, _, _, hh⟩ := hW'.mem _ _ hm
    rw [e1] at hh
    refine TW.endLoop hh (by simp [loopOf]) rfl ?_
    have hW3 := hW'.putO (o' := .loop { loopOf a c.f params assign body w.heap.size with state := .exhausted }) hm (fun _ _ _ => by simp)
    rw [e1] at hW3
    have hrun := (hafter L' a w.heap.size hwid (by simp [L']) hL').go ρ' (marked w a) _ ⟨hi.sz, fun t v ht => ⟨(hTm ρ' hag t v ht).1, (hTm ρ' hag t v ht).2.1, SV.sc_mono (fun j (hj : j < n) => by show j < n + 2; omega) _ (hTm ρ' hag t v ht).2.2⟩, ?_, by rw [look_upd]; exact hW3⟩
    · have hrr' : ({ c with L := L' } : Cx).rr = none := hrr
      rw [hrr'] at hrun
      exact hrun
    · simp only [marked, hi.df]
  · intro i w' v ⟨ρ', hW', hag, hs⟩ hv
    have e1 : ρ'.s (n + 1) = w.heap.size + 1 := (hW'.lid (n + 1, w.heap.size + 1) (by simp [L'])).2
    have hm : (look (inLoop n a c.f params assign body w.heap.size (Mi i))) (n + 1) = some (.obj (.loop (loopOf a c.f params assign body w.heap.size))) := by
      rw [inLoop, look_cons, if_pos rfl]
    obtain ⟨_, _, _, hh⟩ := hW'.mem _ _ hm
    rw [e1] at hh
    have hlen : v.length = params.size := hxs v (List.mem_of_getElem? hv)
    refine ⟨_, hh, by simpa [loopOf] using hlen, ?_⟩
    have hfold : roundTmps (loopOf a c.f params assign body w.heap.size) v.toArray = (params.toList.zip v).foldl (fun tmps (p : Nat × Value) => tmps.setIfInBounds p.1 p.2) a.tmps := by
      simp only [roundTmps, loopOf]
      rw [← Array.foldl_toList]
      simp
    have hnin : n + 1 ∉ is ∧ n ∉ is := ⟨fun h => by have := hisn _ h; omega, fun h => by have := hisn _ h; omega⟩
    have hmem : ∀ i, ∀ y ∈ inLoop n a c.f params assign body w.heap.size (Mi i), look (inLoop n a c.f params assign body w.heap.size (Mi i)) y.1 = some y.2 ∧ (y.2.wnd = true ∨ y.1 ∈ (n + 1) :: n :: is) ∧ (y.2.wnd = true → y.1 ∉ (n + 1) :: n :: is) := by
      intro i y hy
      simp only [inLoop, List.mem_cons] at hy
      rcases hy with rfl | rfl | hy
      · exact ⟨by rw [inLoop, look_cons, if_pos rfl], .inr (by simp), fun h => by cases h⟩
      · exact ⟨by rw [inLoop, look_cons, if_neg (by omega), look_cons, if_pos rfl], .inr (by simp), fun h => by cases h⟩
      · obtain ⟨m1, m2, _, m3⟩ := hMi i y hy
        refine ⟨by rw [hlk i _ m2]; exact m1, ?_, fun hwd => ?_⟩
        · rcases m3 with ⟨g1, _⟩ | ⟨_, g2, _⟩
          · exact .inl g1
          · exact .inr (by simp [g2])
        · rcases m3 with ⟨_, g2, _⟩ | ⟨g1, _⟩
          · simp only [List.mem_cons, not_or]; exact ⟨by omega, by omega, g2⟩
          · rw [g1] at hwd; cases hwd
    obtain ⟨L1, hL1, hL1in, hWr⟩ := hW'.enterN ((n + 1) :: n :: is) (hmem i)
    -- told blocks are of before the iterator's call
    have hold : ∀ p ∈ L1, p.2 < W0.heap.size := by
      intro p hp
      obtain ⟨g1, g2, o, g3, g4⟩ := hL1 p hp
      have hpn := (hW'.mem _ _ g3).1
      rw [g2, (hag p.1 hpn).1]
      simp only [List.mem_cons] at g1
      have hW0s : W0.heap.size = w.heap.size + 2 := by simp [W0, World.loop]
      rcases g1 with e | e | g1
      · rw [e, hl]; omega
      · rw [e, hd]; omega
      · have hlt := hisn _ g1
        rw [hlk i _ hlt] at g3
        obtain ⟨_, _, _, m3⟩ := hMi i _ (look_mem g3)
        rcases m3 with ⟨_, n2, _⟩ | ⟨_, _, o0, n3, n4⟩
        · exact absurd g1 n2
        · have hocc0 : o0.occ ρ2 p.1 := (SObj.occ_agree hag hpn).1 (n4 ρ' g4)
          exact SObj.holds_lt (hW0.mem p.1 o0 (by rw [hlk 0 _ hlt]; exact n3)).2.2 hocc0
    let pl : List (Nat × Nat × Nat × (Option Addr × Nat × Nat)) := (List.range (n + 2)).map fun i => (i, ρ'.s i, ρ'.o i, ρ'.h i)
    have hcov : Covers (n + 2) pl := ⟨fun p hp => by
      obtain ⟨i, hi, rfl⟩ := List.mem_map.1 hp
      exact List.mem_range.1 hi, fun i hi => ⟨_, List.mem_map.2 ⟨i, List.mem_range.2 hi, rfl⟩⟩⟩
    have hpl : ∀ p ∈ pl, ρ'.s p.1 = p.2.1 ∧ ρ'.o p.1 = p.2.2.1 ∧ ρ'.h p.1 = p.2.2.2 := fun p hp => by
      obtain ⟨i, hi, rfl⟩ := List.mem_map.1 hp
      exact ⟨rfl, rfl, rfl⟩
    have hWp : WI w' L1 ρ' (look ((n + 2, .pin pl) :: inLoop n a c.f params assign body w.heap.size (Mi i))) (· < n + 3) w' := by
      rw [look_upd]
      have := hWr.addR (i := n + 2) (Env.agree.refl _ ρ') (o := .pin pl) hcov.1 (fun _ _ h => h) hpl
      exact this.mono fun j hj => by have hj : j < n + 2 ∨ j = n + 2 := hj; omega
    have hlin : (n + 1, w.heap.size + 1) ∈ L1 := by
      have := hL1in (n + 1) (by simp) _ hm trivial
      rwa [e1] at this
    have hrun := (hround i v hv w' L1 (w.heap.size + 1) a w.heap.size pl (fun p hp => by have := (hL1 p hp).1; simpa using this) hlin hcov).go ρ' { tmps := roundTmps (loopOf a c.f params assign body w.heap.size) v.toArray, defers := [] } w' ⟨?_, ?_, rfl, hWp⟩
    · refine hrun.mono fun e w2 ⟨he, ρ3, hC⟩ => ⟨true, he, rfl, ?_, hC.size, fun kk h1 h2 => hC.keep kk h2 fun p hp he => by have := hold p hp; omega⟩
      have hagC : Env.agree (· < n + 2) ρ' ρ3 := pin_agree hcov hpl (hC.mem (n + 2) (.pin pl) (by rw [look_cons, if_pos rfl])).2.2
      have hlidn : ∀ p ∈ L1, p.1 < n + 2 := fun p hp => by
        obtain ⟨_, _, o, g3, _⟩ := hL1 p hp
        exact (hW'.mem _ _ g3).1
      have hlk2 : ∀ j, j < n + 2 → look ((n + 2, SObj.pin pl) :: inLoop n a c.f params assign body w.heap.size (Mi (i + 1))) j = look (inLoop n a c.f params assign body w.heap.size (Mi (i + 1))) j := fun j hj => by
        rw [look_cons, if_neg (by omega)]
      have hscC : ∀ j o, look (inLoop n a c.f params assign body w.heap.size (Mi (i + 1))) j = some o → j < n + 2 ∧ o.sc (· < n + 2) := by
        intro j o hj
        have := look_mem hj
        simp only [inLoop, List.mem_cons] at this
        rcases this with h | h | h
        · simp only [Prod.mk.injEq] at h; obtain ⟨rfl, rfl⟩ := h; exact ⟨by omega, trivial⟩
        · simp only [Prod.mk.injEq] at h; obtain ⟨rfl, rfl⟩ := h; exact ⟨by omega, trivial⟩
        · obtain ⟨_, q1, q2, _⟩ := hMi (i + 1) _ h
          exact ⟨by simp only at q1; omega, q2⟩
      obtain ⟨hM2, hagM⟩ := hW'.mergeP (Nat.le_refl _) hC (show n + 2 ≤ n + 3 by omega) hagC (fun p hp => ⟨hlidn p hp, (hL1 p hp).2.2⟩) (inLoop n a c.f params assign body w.heap.size (Mi (i + 1))) (fun y hy => by
        obtain ⟨m1, m2, m3⟩ := hmem (i + 1) y hy
        cases hwd : y.2.wnd with
        | true =>
          left
          have hni := m3 hwd
          refine ⟨?_, fun p hp he => hni (by rw [← he]; exact (hL1 p hp).1)⟩
          simp only [List.mem_cons, not_or] at hni
          simp only [inLoop, List.mem_cons] at hy
          rcases hy with rfl | rfl | hy
          · exact absurd rfl hni.1
          · exact absurd rfl hni.2.1
          · obtain ⟨_, g2, _, g3⟩ := hMi (i + 1) y hy
            rw [hlk i _ g2]
            rcases g3 with ⟨_, _, g4⟩ | ⟨g4, _⟩
            · exact g4 i
            · rw [g4] at hwd; cases hwd
        | false =>
          right
          obtain ⟨g1, g2⟩ := hscC y.1 y.2 m1
          refine ⟨y.1, y.2, sh_lt g1, by rw [hlk2 _ g1]; exact m1, ?_, hwd⟩
          exact (oren_on (S := (· < n + 2)) (fun j (hj : j < n + 2) => sh_lt hj) g2).symm)
      have hid : (ρ'.join (n + 2) (n + 2) ρ3).ren id = ρ'.join (n + 2) (n + 2) ρ3 := rfl
      have hfin : WI c.w0 L' (ρ'.join (n + 2) (n + 2) ρ3) (look (inLoop n a c.f params assign body w.heap.size (Mi (i + 1)))) (· < n + 2) w2 := by
        rw [← hid]
        refine WI.less (r := id) ⟨fun y hy => ?_, fun _ _ _ _ h => h, fun p hp => ⟨rfl, (hW'.lid p hp).1⟩⟩ hM2
        obtain ⟨m1, _, _⟩ := hmem (i + 1) y hy
        obtain ⟨g1, g2⟩ := hscC y.1 y.2 m1
        rw [oren_id]
        exact ⟨m1, g1, g2⟩
      exact ⟨_, hfin, hag.trans hagM fun _ h => h, Nat.le_trans hs hC.size⟩
    · rw [hfold, foldl_size]; exact hi.sz
    · have hsz : a.tmps.size = c.fn.ntmps := hi.sz
      have hzip : ∀ p ∈ params.toList.zip v, p.1 < a.tmps.size := fun p hpp => by rw [hsz]; exact hp2 _ (List.of_mem_zip hpp).1
      have hnd : ((params.toList.zip v).map (·.1)).Nodup := by
        rw [List.map_fst_zip (by simp [hlen])]
        exact hp
      intro t x ht
      rw [hfold, foldl_size, foldl_get _ _ _ hnd hzip]
      have hz : params.toList.zip (v.map SV.v) = (params.toList.zip v).map fun p => (p.1, SV.v p.2) := by
        rw [List.zip_map_right]; rfl
      rw [look_append, hz, look_map] at ht
      cases hq : look (params.toList.zip v) t with
      | some y =>
        rw [hq] at ht
        obtain rfl : SV.v y = x := by simpa using ht
        exact ⟨hzip _ (look_mem hq), rfl, trivial⟩
      | none =>
        rw [hq] at ht
        obtain ⟨g1, g2, g3⟩ := hTm ρ' hag t x (by simpa using ht)
        exact ⟨g1, g2, SV.sc_mono (fun j (hj : j < n) => by show j < n + 3; omega) _ g3⟩
end Go.Sx
namespace Go.Proofs.Ythaigkamfnjfbaa
open Go.Sx
set_option maxRecDepth 100000
set_option maxHeartbeats 4000000
/-- What is known of the wires: the box of the map, the map, its rows. -/
structure WRaw (S : List Syn) (b1 s : Nat) (m : List (Key × Value)) (w : World) : Prop where
  box : w.cell? ⟨b1, 0, none⟩ = some (.map (some s))
  map : w.heap[s]? = some (kobj m)
  key : ∀ x ∈ m, x.1.pair = false
  row : ∀ k, RowIn w (fun _ => True) (kval m k) 4 (synAt S k).length ((synAt S k).flatMap Syn.vals)
/-- Blocks from N0 on stay as they are. -/
structure YFrame (N0 : Nat) (w w' : World) : Prop where
  size : w.heap.size ≤ w'.heap.size
  keep : ∀ k, N0 ≤ k → k < w.heap.size → w'.heap[k]? = w.heap[k]?
theorem YFrame.refl (N0 : Nat) (w : World) : YFrame N0 w w := ⟨Nat.le_refl _, fun _ _ _ => rfl⟩
theorem YFrame.trans {N0 : Nat} {a b c : World} (h : YFrame N0 a b) (k : YFrame N0 b c) : YFrame N0 a c := ⟨Nat.le_trans h.size k.size, fun i h1 h2 => (k.keep i h1 (Nat.lt_of_lt_of_le h2 h.size)).trans (h.keep i h1 h2)⟩
theorem YFrame.ext {N0 : Nat} {a b : World} (h : Ext a b) : YFrame N0 a b := ⟨h.size, fun i _ h2 => h.keep i h2⟩
theorem YFrame.cell {N0 : Nat} {a b : World} (h : YFrame N0 a b) {q : Nat} (hq : N0 ≤ q) {off : Nat} {v : Value} (hc : a.cell? ⟨q, off, none⟩ = some v) : b.cell? ⟨q, off, none⟩ = some v := by
  have hlt := World.block_lt_of_cell? _ _ hc
  rw [World.cell?_of_block (h.keep q hq hlt)]; exact hc
theorem syn_cells {S : List Syn} {j t : Nat} {v : Value} (hj : j < S.length) (h : S[j].vals[t]? = some v) : (S.flatMap Syn.vals)[j * 4 + t]? = some v := by
  have ht : t < 4 := by
    rcases Nat.lt_or_ge t S[j].vals.length with h' | h'
    · simpa [Syn.vlen] using h'
    · rw [List.getElem?_eq_none h'] at h; cases h
  rw [← get_eq, get_flat (f := Syn.vals) Syn.vlen hj ht, get_eq]; exact h
theorem each_run (S : List Syn) (hS : S.length ≤ 8192) (b1 s : Nat) (m : List (Key × Value)) (l N0 : Nat) (J : Nat → World → Prop) (xs : List (List Value)) (hext : ∀ i w w', J i w → Ext w w' → J i w') (hJ : ∀ i w, J i w → WRaw S b1 s m w ∧ N0 ≤ w.heap.size)
    (hy : ∀ i w x, J i w → xs[i]? = some x → Sx.Yields Try.prog l x.toArray w fun b w' => b = true ∧ J (i + 1) w' ∧ w.heap.size ≤ w'.heap.size ∧ ∀ k, N0 ≤ k → k < w.heap.size → w'.heap[k]? = w.heap[k]?)
    (a : Int) (k : Nat) (hx : ∀ j (h : j < (synAt S a).length), xs[k + j]? = some [.agg (synAt S a)[j].vals.toArray]) (b2 : Nat) (hb2 : N0 ≤ b2) (w : World) (hw : J k w) (hc2 : w.cell? ⟨b2, 0, none⟩ = some (.func (.yield l) #[] #[])) :
    Calls Try.prog 65 #[.int .i64 a, .pointer (some ⟨b1, 0, none⟩), .pointer (some ⟨b2, 0, none⟩)] w fun e w' => e = .returned (.bool true) ∧ J (k + (synAt S a).length) w' ∧ YFrame N0 w w' := by
  have hc : ∀ w0, Cx.ok ⟨Try.prog, tab, [], 65, Try.f65, [], w0, [], none⟩ := fun w0 => ⟨tab_ok, trivial, Try.func65, mixed, fun _ h => by cases h⟩
  obtain ⟨hr, hN⟩ := hJ k w hw
  obtain ⟨_, p, cp, hv, _, _⟩ := hr.row a
  have hlen : (synAt S a).length ≤ 8192 := Nat.le_trans (List.length_filter_le ..) hS
  refine Run.start0 (tab := tab) (pf := []) (cuts := []) mixed tab_ok trivial Try.func65 rfl [ii a, .v (.pointer (some ⟨b1, 0, none⟩)), .v (.pointer (some ⟨b2, 0, none⟩))] 1000 (by simp [SV.scs, SV.sc]) rfl ?_
  conv => whnf
  refine Run.loadV (hc w) rfl rfl rfl rfl rfl rfl rfl (fun p hp => by cases hp) hr.box ?_
  refine Run.of_wpK (hc w) 1000 _ ?_
  conv => whnf
  refine Run.lookupV (hc w) rfl rfl rfl rfl rfl rfl rfl (key := .i a) rfl hr.map hr.key (fun p hp => by cases hp) ?_
  rw [show (kget m (.i a)).getD (.slice none 0 0) = .slice p (synAt S a).length cp from hv]
  refine Run.of_wpK (hc w) 1000 _ ?_
  conv => whnf
  refine Run.trim (T' := [(2, .v (.pointer (some ⟨b2, 0, none⟩))), (9, .v (.slice p (synAt S a).length cp)), (10, ii ((synAt S a).length : Int)), (11, ii ((0 : Nat) : Int))]) (M' := []) 0 ⟨⟨rfl, trivial⟩, ⟨rfl, trivial⟩, ⟨rfl, trivial⟩, ⟨rfl, trivial⟩, trivial⟩ trivial (fun p hp => by cases hp) ?_
  refine Run.upToW (fun w1 : World => (⟨Try.prog, tab, [], 65, Try.f65, [], w1, [], none⟩ : Cx)) (T := fun j _ => [(2, .v (.pointer (some ⟨b2, 0, none⟩))), (9, .v (.slice p (synAt S a).length cp)), (10, ii ((synAt S a).length : Int)), (11, ii ((j : Nat) : Int))]) (M := fun _ _ => []) (fun j w1 => J (k + j) w1 ∧ YFrame N0 w w1) (synAt S a).length w ⟨hw, YFrame.refl _ _⟩ ?_ ?_
  · rintro j w1 hj ⟨hJ1, hF1⟩ ih
    obtain ⟨hr1, hN1⟩ := hJ _ _ hJ1
    refine Run.of_wpK (hc w1) 1000 _ ?_
    conv => whnf
    rw [decide_eq_true (show ((j : Nat) : Int) < ((synAt S a).length : Int) by omega)]
    conv => whnf
    obtain ⟨_, p', cp', hv', _, hcells⟩ := hr1.row a
    rw [hv] at hv'
    obtain ⟨rfl, _, rfl⟩ : p = p' ∧ (synAt S a).length = (synAt S a).length ∧ cp = cp' := by simpa using hv'
    rcases hcells with h0 | ⟨blk, off, rfl, _, hcells⟩
    · omega
    refine Run.indexW (hc w1) rfl rfl rfl rfl j rfl rfl rfl hj rfl rfl ?_
    refine Run.loadW (hc w1) rfl rfl rfl rfl (synAt S a)[j].vals rfl rfl rfl (fun p hp => by cases hp) rfl (Nat.zero_lt_succ 3) (fun t v ht => ?_) ?_
    · rw [Nat.add_assoc]; exact hcells _ _ (syn_cells hj ht)
    refine Run.of_wpK (hc w1) 1000 _ ?_
    conv => whnf
    refine Run.loadV (hc w1) rfl rfl rfl rfl rfl rfl rfl (fun p hp => by cases hp) (hF1.cell hb2 hc2) ?_
    refine Run.of_wpK (hc w1) 1000 _ ?_
    conv => whnf
    refine Run.callY rfl rfl rfl rfl rfl rfl (fun ρ w2 hW => ?_)
    have hE := hW.toExt
    refine (hy (k + j) w2 _ (hext _ _ _ hJ1 hE) (hx j hj)).mono fun b w3 ⟨hb, hJ3, hs3, hk3⟩ => ?_
    subst hb
    have hF3 : YFrame N0 w w3 := hF1.trans ((YFrame.ext hE).trans ⟨hs3, hk3⟩)
    refine ⟨[(2, .v (.pointer (some ⟨b2, 0, none⟩))), (9, .v (.slice (some ⟨blk, off, none⟩) (synAt S a).length cp)), (10, ii ((synAt S a).length : Int)), (11, ii ((j : Nat) : Int))], ρ, [], 0, [], AllP.mem ⟨⟨_, rfl, rfl, trivial⟩, ⟨_, rfl, rfl, trivial⟩, ⟨_, rfl, rfl, trivial⟩, ⟨_, rfl, rfl, trivial⟩, trivial⟩, WI.start w3 ρ, ?_⟩
    refine Run.of_wpK (hc w3) 1000 _ ?_
    conv => whnf
    exact Run.trim (T' := [(2, .v (.pointer (some ⟨b2, 0, none⟩))), (9, .v (.slice (some ⟨blk, off, none⟩) (synAt S a).length cp)), (10, ii ((synAt S a).length : Int)), (11, ii ((j + 1 : Nat) : Int))]) (M' := []) 0 ⟨⟨rfl, trivial⟩, ⟨rfl, trivial⟩, ⟨rfl, trivial⟩, ⟨congrArg some (congrArg ii (wrap_succ (by omega))), trivial⟩, trivial⟩ trivial (fun p hp => by cases hp) (ih w3 ⟨hJ3, hF3⟩)
  · rintro w1 ⟨hJ1, hF1⟩
    refine Run.of_wpK (hc w1) 1000 _ ?_
    conv => whnf
    rw [decide_eq_false (show ¬ (((synAt S a).length : Nat) : Int) < ((synAt S a).length : Int) by omega)]
    conv => whnf
    exact ⟨fun ρ w2 hW _ => ⟨rfl, hext _ _ _ hJ1 hW.toExt, hF1.trans (YFrame.ext hW.toExt)⟩⟩
def srcK (sp ins : List Int) : List Int := sp ++ ins.map fun k => W (-1 - k)
def ylS (S : List Syn) (ks : List Int) : List Syn := ks.flatMap (synAt S)
def ylV (S : List Syn) (ks : List Int) : List (List Value) := (ylS S ks).map fun s => [.agg s.vals.toArray]
theorem ylS_take {S : List Syn} {ks : List Int} {i : Nat} (h : i < ks.length) : ylS S (ks.take (i + 1)) = ylS S (ks.take i) ++ synAt S ks[i] := by
  unfold ylS
  rw [← List.take_append_getElem h, List.flatMap_append]
  simp
theorem ylV_get {S : List Syn} {ks : List Int} {i : Nat} (h : i < ks.length) (a : Int) (ha : ks[i] = a) (j : Nat) (hj : j < (synAt S a).length) : (ylV S ks)[(ylS S (ks.take i)).length + j]? = some [.agg (synAt S a)[j].vals.toArray] := by
  subst ha
  have e : ylS S ks = ylS S (ks.take i) ++ (synAt S ks[i] ++ ylS S (ks.drop (i + 1))) := by
    have : ks = ks.take i ++ ks[i] :: ks.drop (i + 1) := by rw [← List.drop_eq_getElem_cons h, List.take_append_drop]
    conv => lhs; rw [this]
    unfold ylS
    rw [List.flatMap_append, List.flatMap_cons]
  unfold ylV
  rw [List.getElem?_map, e, List.getElem?_append_right (by omega), show (ylS S (ks.take i)).length + j - (ylS S (ks.take i)).length = j by omega, List.getElem?_append_left hj, List.getElem?_eq_getElem hj]
  rfl
theorem srcK_lo {sp ins : List Int} {i : Nat} (h : i < sp.length) : ∃ h' : i < (srcK sp ins).length, (srcK sp ins)[i] = sp[i] := ⟨by simp [srcK]; omega, by simp [srcK, List.getElem_append_left h]⟩
theorem srcK_hi {sp ins : List Int} {i : Nat} (h : i < ins.length) : ∃ h' : sp.length + i < (srcK sp ins).length, (srcK sp ins)[sp.length + i] = W (-1 - ins[i]) := ⟨by simp [srcK]; omega, by simp [srcK]⟩
/-- What the iterator looks at. -/
structure FRaw (S : List Syn) (b1 s : Nat) (m : List (Key × Value)) (bs : Nat) (vs : Value) (sp : List Int) (bi : Nat) (vi : Value) (ins : List Int) (w : World) : Prop where
  wr : WRaw S b1 s m w
  cs : w.cell? ⟨bs, 0, none⟩ = some vs
  rs : RowsAt w vs 1 sp.length (ints sp)
  ci : w.cell? ⟨bi, 0, none⟩ = some vi
  ri : RowsAt w vi 1 ins.length (ints ins)
theorem from_iterN (S : List Syn) (hS : S.length ≤ 8192) (b1 s : Nat) (m : List (Key × Value)) (bs : Nat) (vs : Value) (sp : List Int) (bi : Nat) (vi : Value) (ins : List Int) (hsp : sp.length < 4611686018427387904) (hin : ins.length < 4611686018427387904) :
    IterN Try.prog 64 [.pointer (some ⟨b1, 0, none⟩), .pointer (some ⟨bs, 0, none⟩), .pointer (some ⟨bi, 0, none⟩)] (FRaw S b1 s m bs vs sp bi vi ins) (ylV S (srcK sp ins)) := by
  intro l N0 J hext hJ hy w hw
  have hc : ∀ w0, Cx.ok ⟨Try.prog, tab, [], 64, Try.f64, [], w0, [], none⟩ := fun w0 => ⟨tab_ok, trivial, Try.func64, mixed, fun _ h => by cases h⟩
  obtain ⟨hr, hN⟩ := hJ 0 w hw
  have hargs : (#[.func (.yield l) #[] #[]] ++ [.pointer (some ⟨b1, 0, none⟩), .pointer (some ⟨bs, 0, none⟩), .pointer (some ⟨bi, 0, none⟩)].toArray : Array Value) = (SV.concs env0 [.v (.func (.yield l) #[] #[]), .v (.pointer (some ⟨b1, 0, none⟩)), .v (.pointer (some ⟨bs, 0, none⟩)), .v (.pointer (some ⟨bi, 0, none⟩))]).toArray := by simp [SV.concs, SV.conc]
  rw [hargs]
  refine Run.start0 (tab := tab) (pf := []) (cuts := []) mixed tab_ok trivial Try.func64 rfl [.v (.func (.yield l) #[] #[]), .v (.pointer (some ⟨b1, 0, none⟩)), .v (.pointer (some ⟨bs, 0, none⟩)), .v (.pointer (some ⟨bi, 0, none⟩))] 1000 (by simp [SV.scs, SV.sc]) rfl ?_
  conv => whnf
  refine Run.trim (T' := [(2, .v (.pointer (some ⟨bs, 0, none⟩))), (3, .v (.pointer (some ⟨bi, 0, none⟩))), (5, .fn 65 [.v (.pointer (some ⟨b1, 0, none⟩)), .ptr 0 0])]) (M' := [(0, .cells [.v (.func (.yield l) #[] #[])] 137)]) 1 ⟨⟨rfl, trivial⟩, ⟨rfl, trivial⟩, ⟨rfl, trivial, (show 0 < 1 by decide), trivial⟩, trivial⟩ ⟨⟨rfl, by omega, trivial, trivial⟩, trivial⟩ (fun p hp => by cases hp) ?_
  refine Run.raw fun ρ w1 hW1 => ?_
  obtain ⟨_, _, ho, hbox⟩ := hW1.mem 0 _ rfl
  have hE1 := hW1.toExt
  have hb2' : w.heap.size ≤ ρ.s 0 := by
    rcases hW1.new 0 _ rfl trivial with ⟨p, hp, _⟩ | h
    · cases hp
    · exact h
  obtain ⟨b2, hb2e⟩ : ∃ b2, ρ.s 0 = b2 := ⟨_, rfl⟩
  have hfn : (SV.fn 65 [.v (.pointer (some ⟨b1, 0, none⟩)), .ptr 0 0]).conc ρ = .func (.func 65) #[] #[.pointer (some ⟨b1, 0, none⟩), .pointer (some ⟨b2, 0, none⟩)] := by simp [SV.conc, SV.concs, ho, hb2e]
  rw [hb2e] at hbox hb2'
  have hb2 : N0 ≤ b2 := Nat.le_trans hN hb2'
  have hc2 : w1.cell? ⟨b2, 0, none⟩ = some (.func (.yield l) #[] #[]) := by simp [World.cell?, hbox, SV.concs, SV.conc]
  have hw1 := hext _ _ _ hw hE1
  clear hbox ho hW1 hw hr hN hE1 hb2'
  refine Run.trim (T' := [(2, .v (.pointer (some ⟨bs, 0, none⟩))), (3, .v (.pointer (some ⟨bi, 0, none⟩))), (5, .v (.func (.func 65) #[] #[.pointer (some ⟨b1, 0, none⟩), .pointer (some ⟨b2, 0, none⟩)]))]) (M' := []) 0 ⟨⟨rfl, trivial⟩, ⟨rfl, trivial⟩, ⟨congrArg (fun x => some (SV.v x)) hfn, trivial⟩, trivial⟩ trivial (fun p hp => by cases hp) ?_
  obtain ⟨hr, hN⟩ := hJ 0 w1 hw1
  obtain ⟨_, ps, cs, rfl, _, _⟩ := hr.rs
  obtain ⟨_, pi, ci, rfl, _, _⟩ := hr.ri
  refine Run.loadV (hc w1) rfl rfl rfl rfl rfl rfl rfl (fun p hp => by cases hp) hr.cs ?_
  refine Run.of_wpK (hc w1) 1000 _ ?_
  conv => whnf
  refine Run.trim (T' := [(3, .v (.pointer (some ⟨bi, 0, none⟩))), (5, .v (.func (.func 65) #[] #[.pointer (some ⟨b1, 0, none⟩), .pointer (some ⟨b2, 0, none⟩)])), (11, .v (.slice ps sp.length cs)), (12, ii (sp.length : Int)), (13, ii ((0 : Nat) : Int))]) (M' := []) 0 ⟨⟨rfl, trivial⟩, ⟨rfl, trivial⟩, ⟨rfl, trivial⟩, ⟨rfl, trivial⟩, ⟨rfl, trivial⟩, trivial⟩ trivial (fun p hp => by cases hp) ?_
  refine Run.upToW (fun w1 : World => (⟨Try.prog, tab, [], 64, Try.f64, [], w1, [], none⟩ : Cx)) (T := fun i _ => [(3, .v (.pointer (some ⟨bi, 0, none⟩))), (5, .v (.func (.func 65) #[] #[.pointer (some ⟨b1, 0, none⟩), .pointer (some ⟨b2, 0, none⟩)])), (11, .v (.slice ps sp.length cs)), (12, ii (sp.length : Int)), (13, ii ((i : Nat) : Int))]) (M := fun _ _ => []) (fun i w2 => J (ylS S ((srcK sp ins).take (i))).length w2 ∧ YFrame N0 w1 w2) sp.length w1 ⟨hw1, YFrame.refl _ _⟩ ?_ ?_
  · rintro i w2 hi ⟨hJ2, hF2⟩ ih
    obtain ⟨hr2, hN2⟩ := hJ _ _ hJ2
    refine Run.of_wpK (hc w2) 1000 _ ?_
    conv => whnf
    rw [decide_eq_true (show ((i : Nat) : Int) < (sp.length : Int) by omega)]
    conv => whnf
    obtain ⟨_, p', c', hpe, _, hh⟩ := hr2.rs
    obtain ⟨rfl, _, rfl⟩ : ps = p' ∧ sp.length = sp.length ∧ cs = c' := by simpa using hpe
    rcases hh with h0 | ⟨blk, off, rfl, _, hcells⟩
    · omega
    refine Run.indexV (hc w2) rfl rfl rfl rfl i rfl rfl rfl hi rfl rfl ?_
    refine Run.loadV (hc w2) rfl rfl rfl rfl rfl rfl rfl (fun p hp => by cases hp) (hcells i (.int .i64 sp[i]) (by simp [ints, hi])) ?_
    refine Run.of_wpK (hc w2) 1000 _ ?_
    conv => whnf
    obtain ⟨hk1, hk2⟩ := srcK_lo (ins := ins) hi
    refine Run.callW (g := 65) (vs := [ii sp[i]]) (caps := [.v (.pointer (some ⟨b1, 0, none⟩)), .v (.pointer (some ⟨b2, 0, none⟩))]) (fun _ w3 e w4 => e = .returned (.bool true) ∧ J ((ylS S ((srcK sp ins).take (i))).length + (synAt S (sp[i])).length) w4 ∧ YFrame N0 w3 w4) (fun ρ w3 hW3 => each_run S hS b1 s m l N0 J (ylV S (srcK sp ins)) hext (fun i w h => ⟨(hJ i w h).1.wr, (hJ i w h).2⟩) hy (sp[i]) _ (fun j hj => ylV_get hk1 _ hk2 j hj) b2 hb2 w3 (hext _ _ _ hJ2 hW3.toExt) ((hF2.trans (YFrame.ext hW3.toExt)).cell hb2 hc2))
      (ent _ _ Try.func65 (by kernel_rfl) rfl) rfl rfl rfl rfl rfl rfl rfl (fun ρ w3 e w4 hW3 ⟨he, hJ4, hF4⟩ => ⟨.v (.bool true), [(3, .v (.pointer (some ⟨bi, 0, none⟩))), (5, .v (.func (.func 65) #[] #[.pointer (some ⟨b1, 0, none⟩), .pointer (some ⟨b2, 0, none⟩)])), (11, .v (.slice (some ⟨blk, off, none⟩) sp.length cs)), (12, ii (sp.length : Int)), (13, ii ((i : Nat) : Int))], ρ, [], 0, [], he, trivial, AllP.mem ⟨⟨_, rfl, rfl, trivial⟩, ⟨_, rfl, rfl, trivial⟩, ⟨_, rfl, rfl, trivial⟩, ⟨_, rfl, rfl, trivial⟩, ⟨_, rfl, rfl, trivial⟩, trivial⟩, WI.start w4 ρ, ?_⟩)
    refine Run.of_wpK (hc w4) 1000 _ ?_
    conv => whnf
    exact Run.trim (T' := [(3, .v (.pointer (some ⟨bi, 0, none⟩))), (5, .v (.func (.func 65) #[] #[.pointer (some ⟨b1, 0, none⟩), .pointer (some ⟨b2, 0, none⟩)])), (11, .v (.slice (some ⟨blk, off, none⟩) sp.length cs)), (12, ii (sp.length : Int)), (13, ii ((i + 1 : Nat) : Int))]) (M' := []) 0 ⟨⟨rfl, trivial⟩, ⟨rfl, trivial⟩, ⟨rfl, trivial⟩, ⟨rfl, trivial⟩, ⟨congrArg some (congrArg ii (wrap_succ (by omega))), trivial⟩, trivial⟩ trivial (fun p hp => by cases hp) (ih w4 ⟨by rw [ylS_take hk1, List.length_append, hk2]; exact hJ4, hF2.trans ((YFrame.ext hW3.toExt).trans hF4)⟩)
  · rintro w2 ⟨hJ2, hF2⟩
    obtain ⟨hr2, hN2⟩ := hJ _ _ hJ2
    refine Run.of_wpK (hc w2) 1000 _ ?_
    conv => whnf
    rw [decide_eq_false (show ¬ ((sp.length : Nat) : Int) < (sp.length : Int) by omega)]
    conv => whnf
    refine Run.loadV (hc w2) rfl rfl rfl rfl rfl rfl rfl (fun p hp => by cases hp) hr2.ci ?_
    refine Run.of_wpK (hc w2) 1000 _ ?_
    conv => whnf
    refine Run.trim (T' := [(5, .v (.func (.func 65) #[] #[.pointer (some ⟨b1, 0, none⟩), .pointer (some ⟨b2, 0, none⟩)])), (22, .v (.slice pi ins.length ci)), (23, ii (ins.length : Int)), (24, ii ((0 : Nat) : Int))]) (M' := []) 0 ⟨⟨rfl, trivial⟩, ⟨rfl, trivial⟩, ⟨rfl, trivial⟩, ⟨rfl, trivial⟩, trivial⟩ trivial (fun p hp => by cases hp) ?_
    refine Run.upToW (fun w1 : World => (⟨Try.prog, tab, [], 64, Try.f64, [], w1, [], none⟩ : Cx)) (T := fun i _ => [(5, .v (.func (.func 65) #[] #[.pointer (some ⟨b1, 0, none⟩), .pointer (some ⟨b2, 0, none⟩)])), (22, .v (.slice pi ins.length ci)), (23, ii (ins.length : Int)), (24, ii ((i : Nat) : Int))]) (M := fun _ _ => []) (fun i w2 => J (ylS S ((srcK sp ins).take (sp.length + i))).length w2 ∧ YFrame N0 w1 w2) ins.length w2 ⟨hJ2, hF2⟩ ?_ ?_
    · rintro i w3 hi ⟨hJ3, hF3⟩ ih
      obtain ⟨hr3, hN3⟩ := hJ _ _ hJ3
      refine Run.of_wpK (hc w3) 1000 _ ?_
      conv => whnf
      rw [decide_eq_true (show ((i : Nat) : Int) < (ins.length : Int) by omega)]
      conv => whnf
      obtain ⟨_, p', c', hpe, _, hh⟩ := hr3.ri
      obtain ⟨rfl, _, rfl⟩ : pi = p' ∧ ins.length = ins.length ∧ ci = c' := by simpa using hpe
      rcases hh with h0 | ⟨blk, off, rfl, _, hcells⟩
      · omega
      refine Run.indexV (hc w3) rfl rfl rfl rfl i rfl rfl rfl hi rfl rfl ?_
      refine Run.loadV (hc w3) rfl rfl rfl rfl rfl rfl rfl (fun p hp => by cases hp) (hcells i (.int .i64 ins[i]) (by simp [ints, hi])) ?_
      refine Run.of_wpK (hc w3) 1000 _ ?_
      conv => whnf
      obtain ⟨hk1, hk2⟩ := srcK_hi (sp := sp) hi
      refine Run.callW (g := 65) (vs := [ii (IntKind.i64.wrap (-1 - ins[i]))]) (caps := [.v (.pointer (some ⟨b1, 0, none⟩)), .v (.pointer (some ⟨b2, 0, none⟩))]) (fun _ w4 e w5 => e = .returned (.bool true) ∧ J ((ylS S ((srcK sp ins).take (sp.length + i))).length + (synAt S (W (-1 - ins[i]))).length) w5 ∧ YFrame N0 w4 w5) (fun ρ w4 hW4 => each_run S hS b1 s m l N0 J (ylV S (srcK sp ins)) hext (fun i w h => ⟨(hJ i w h).1.wr, (hJ i w h).2⟩) hy (W (-1 - ins[i])) _ (fun j hj => ylV_get hk1 _ hk2 j hj) b2 hb2 w4 (hext _ _ _ hJ3 hW4.toExt) ((hF3.trans (YFrame.ext hW4.toExt)).cell hb2 hc2))
        (ent _ _ Try.func65 (by kernel_rfl) rfl) rfl rfl rfl rfl rfl rfl rfl (fun ρ w4 e w5 hW4 ⟨he, hJ5, hF5⟩ => ⟨.v (.bool true), [(5, .v (.func (.func 65) #[] #[.pointer (some ⟨b1, 0, none⟩), .pointer (some ⟨b2, 0, none⟩)])), (22, .v (.slice (some ⟨blk, off, none⟩) ins.length ci)), (23, ii (ins.length : Int)), (24, ii ((i : Nat) : Int))], ρ, [], 0, [], he, trivial, AllP.mem ⟨⟨_, rfl, rfl, trivial⟩, ⟨_, rfl, rfl, trivial⟩, ⟨_, rfl, rfl, trivial⟩, ⟨_, rfl, rfl, trivial⟩, trivial⟩, WI.start w5 ρ, ?_⟩)
      refine Run.of_wpK (hc w5) 1000 _ ?_
      conv => whnf
      exact Run.trim (T' := [(5, .v (.func (.func 65) #[] #[.pointer (some ⟨b1, 0, none⟩), .pointer (some ⟨b2, 0, none⟩)])), (22, .v (.slice (some ⟨blk, off, none⟩) ins.length ci)), (23, ii (ins.length : Int)), (24, ii ((i + 1 : Nat) : Int))]) (M' := []) 0 ⟨⟨rfl, trivial⟩, ⟨rfl, trivial⟩, ⟨rfl, trivial⟩, ⟨congrArg some (congrArg ii (wrap_succ (by omega))), trivial⟩, trivial⟩ trivial (fun p hp => by cases hp) (ih w5 ⟨by rw [← Nat.add_assoc, ylS_take hk1, List.length_append, hk2]; exact hJ5, hF3.trans ((YFrame.ext hW4.toExt).trans hF5)⟩)
    · rintro w3 ⟨hJ3, hF3⟩
      refine Run.of_wpK (hc w3) 1000 _ ?_
      conv => whnf
      rw [decide_eq_false (show ¬ ((ins.length : Nat) : Int) < (ins.length : Int) by omega)]
      conv => whnf
      have hall : (srcK sp ins).take (sp.length + ins.length) = srcK sp ins := List.take_of_length_le (by simp [srcK])
      rw [hall] at hJ3
      exact ⟨fun ρ w4 hW _ => ⟨⟨_, rfl⟩, by rw [show (ylV S (srcK sp ins)).length = (ylS S (srcK sp ins)).length by simp [ylV]]; exact hext _ _ _ hJ3 hW.toExt⟩⟩
def nsimC (inp tk : Int) : List SV := [.opq 1, ii inp, .opq 20, .mp 2, ii tk, .opq 3, .opq 4, .opq 5, .opq 6, .opq 7, .opq 8, .opq 9, .opq 10, .opq 11, .opq 12, .opq 13, .opq 14, .opq 15, .opq 16, .opq 17, .opq 18, .opq 19]
theorem nsimC_sc (inp tk : Int) : SV.scs (· < 21) (nsimC inp tk) := by simp [nsimC, SV.scs, SV.sc]
theorem nrow_spec (inp tk d : Int) (h0 : 0 ≤ tk) (h1 : tk < 1000000000) (d0 : 0 ≤ d) (d1 : d ≤ 1000) : BSpec Try.prog 54 [.ptr 0 0, ii d] [(0, .cells (nsimC inp tk) 117)] 21 [0] (.opq (4 + slotN (tk + d))) [(0, .cells (nsimC inp tk) 117)] 21 := by
  have hc : ∀ w L' rd, (∀ p, rd = some p → p ∈ L') → Cx.ok ⟨Try.prog, tab, [], 54, Try.f54, [], w, L', rd⟩ := fun w L' rd h => ⟨tab_ok, trivial, Try.func54, mixed, h⟩
  refine BSpec.start (tab := tab) (pf := []) (cuts := []) Try.func54 rfl ⟨(show 0 < 21 by decide), trivial, trivial⟩ rfl fun w L0 plp hL hLB hcov => Run.of_wpK (hc w L0 none (fun _ h => by cases h)) 100 _ ?_
  conv => whnf
  refine Run.draw (hc w L0 none (fun _ h => by cases h)) 13 ?_
  rw [show upto 0 13 = upto 0 8 ++ upto 8 5 from rfl]
  simp only [drawK_app]
  conv => whnf
  refine ⟨by decide, ?_⟩
  have hw : IntKind.i64.wrap (tk + d) = tk + d := W_id (by omega) (by omega)
  rw [hw, slotN_eq (show 0 ≤ tk + d by omega)]
  have hk16 := slotN_lt (t := tk + d)
  generalize slotN (tk + d) = k at hk16 ⊢
  conv => whnf
  refine ⟨by omega, ?_⟩
  conv => whnf
  rw [opF_loadC (c := .opq (4 + k)) rfl rfl rfl rfl (by rw [idx_nat]; rcases lt16 hk16 with rfl | rfl | rfl | rfl | rfl | rfl | rfl | rfl | rfl | rfl | rfl | rfl | rfl | rfl | rfl | rfl <;> rfl)]
  conv => whnf
  refine ⟨by kernel_rfl, ?_⟩
  refine Run.of_wpK (hc w L0 none (fun _ h => by cases h)) 1000 _ ?_
  conv => whnf
  exact SpecR.intro 22 (by decide) hLB (by decide) hcov rfl (by show SV.opq (sh 21 22 (4 + k)) = _; rw [sh_lt (by omega)]) (show 4 + k < 21 by omega) ⟨⟨by rw [oren_fix (S := (· < 21)) (fun i hi => sh_fix i hi) (o := .cells (nsimC inp tk) 117) (nsimC_sc _ _)]; rfl, by omega, nsimC_sc _ _⟩, trivial⟩
theorem nfrom_spec : BSpec Try.prog 56 [.mp 0, .opq 1, .opq 2] [] 3 [] (.fn 64 [.ptr 3 0, .ptr 4 0, .ptr 5 0]) [(3, .cells [.mp 0] 111), (4, .cells [.opq 1] 28), (5, .cells [.opq 2] 28)] 6 := by
  have hc : ∀ w L' rd, (∀ p, rd = some p → p ∈ L') → Cx.ok ⟨Try.prog, tab, [], 56, Try.f56, [], w, L', rd⟩ := fun w L' rd h => ⟨tab_ok, trivial, Try.func56, mixed, h⟩
  refine BSpec.start (tab := tab) (pf := []) (cuts := []) Try.func56 rfl ⟨(show 0 < 3 by decide), (show 1 < 3 by decide), (show 2 < 3 by decide), trivial⟩ rfl fun w L0 plp hL hLB hcov => Run.of_wpK (hc w L0 none (fun _ h => by cases h)) 100 _ ?_
  conv => whnf
  exact SpecR.intro 4 (by decide) hLB (by decide) hcov rfl rfl ⟨(show 3 < 6 by decide), (show 4 < 6 by decide), (show 5 < 6 by decide), trivial⟩ ⟨⟨rfl, by omega, by simp [SObj.sc, SV.scs, SV.sc]⟩, ⟨rfl, by omega, by simp [SObj.sc, SV.scs, SV.sc]⟩, ⟨rfl, by omega, by simp [SObj.sc, SV.scs, SV.sc]⟩, trivial⟩
/-- What is due, behind a synapse that yields. -/
def dSt (tk : Int) (due : Nat → List Int) (x : Syn) : Nat → List Int := fun j => if j = slotN (tk + x.d) then (due j).set x.to.toNat (W ((due j).getD x.to.toNat 0 + x.w)) else due j
def dY (tk : Int) (due : Nat → List Int) (l : List Syn) (j : Nat) : Nat → List Int := (l.take j).foldl (dSt tk) due
theorem dY_succ (tk : Int) (due : Nat → List Int) {l : List Syn} {j : Nat} (h : j < l.length) : dY tk due l (j + 1) = dSt tk (dY tk due l j) l[j] := by
  unfold dY
  rw [← List.take_append_getElem h, List.foldl_append]; rfl
theorem dSt_len (tk : Int) (due : Nat → List Int) (x : Syn) (j : Nat) : (dSt tk due x j).length = (due j).length := by
  unfold dSt; split <;> simp
theorem dFold_len (tk : Int) : ∀ (l : List Syn) (due : Nat → List Int) (j : Nat), (l.foldl (dSt tk) due j).length = (due j).length
  | [], _, _ => rfl
  | x :: l, due, j => by rw [List.foldl_cons, dFold_len tk l, dSt_len]
theorem dY_len (tk : Int) (due : Nat → List Int) (l : List Syn) (i j : Nat) : (dY tk due l i j).length = (due j).length := dFold_len tk _ due j
/-- The row of the tick, cleared. -/
def dClr (k N : Nat) (due : Nat → List Int) : Nat → List Int := fun j => if j = k then List.replicate N 0 else due j
theorem dClr_len {k N : Nat} {due : Nat → List Int} (h : ∀ j, j < 16 → (due j).length = N) (j : Nat) (hj : j < 16) : (dClr k N due j).length = N := by
  unfold dClr; split
  · simp
  · exact h j hj
set_option maxHeartbeats 16000000
section
variable {tab : Tab} {pf : PF} {T : Tm} {M : Mem} {n : Nat} {t : TypeId} {x y : Operand} {ti : TI} {j e m : Nat} {xs : List SV} {rt : TypeId}
theorem opF_lenR {args : Array Operand} {ts : Array TypeId} {te : TypeId} {sz b : Nat} (ha : args.toList = [x]) (hts : ts.toList.head? = some t) (ht : Sx.look tab t = some ti) (hs : ti.sh = .slc te sz b) (hx : ev T x = some (.opq j)) (hM : M j = some (.row e m xs rt)) :
    opF tab pf T M n (.call { callee := .builtin .len, args := args, argTypes := ts }) = some (.val none (ii (m : Int))) := by
  have hts2 : ∃ r, ts.toList = t :: r := by
    cases hq : ts.toList with
    | nil => rw [hq] at hts; cases hts
    | cons a r => rw [hq] at hts; exact ⟨r, by rw [Option.some.inj hts]⟩
  obtain ⟨r, hts2⟩ := hts2
  unfold opF
  simp only [ha, hts2]
  unfold opLen
  simp only [ht, hs, hx, hM]
theorem opF_indexR {te : TypeId} {sz b : Nat} {i : Int} {k : IntKind} (ht : Sx.look tab t = some ti) (hs : ti.sh = .slc te sz b) (hx : ev T x = some (.opq j)) (hy : ev T y = some (.v (.int k i))) (hM : M j = some (.row e m xs rt)) (he : e = sz) :
    opF tab pf T M n (.indexAddr t x y) = some (.val (some (0 ≤ i ∧ i < (m : Int))) (.ptr j (idx i sz))) := by
  subst he
  unfold opF
  simp only
  unfold opIndexAddr
  have hb : Nat.beq e e = true := Nat.beq_refl e
  simp only [ht, hs, hx, hy, hM, hb]
end
theorem joinN {G : Prop} {c : Cx} {R : Ending → World → Prop} {q : List Item} (T : List (Nat × SV)) (M : List (Nat × SObj)) (n : Nat) (h1 : Run c ⟨T, M, n, [], q⟩ R → G) (h2 : Run c ⟨T, M, n, [], q⟩ R) : G := h1 h2
abbrev swS (S : List Syn) : SObj := .swin 4 (fun k => (synAt S k).length) fun k => (synAt S k).flatMap Syn.vals
/-- What a tick of a simulation looks at. -/
def nsimM (inp tk : Int) (N : List Prm) (S : List Syn) (st : List Ste) (due : Nat → List Int) : List (Nat × SObj) := [(0, .cells (nsimC inp tk) 117), (1, .rwin 8 N.length (N.flatMap Prm.vals)), (2, swS S), (3, .row 2 N.length (st.flatMap Ste.cells) 119), (4, .row 1 N.length ((due 0).map fun x => ii x) 3), (5, .row 1 N.length ((due 1).map fun x => ii x) 3), (6, .row 1 N.length ((due 2).map fun x => ii x) 3), (7, .row 1 N.length ((due 3).map fun x => ii x) 3), (8, .row 1 N.length ((due 4).map fun x => ii x) 3), (9, .row 1 N.length ((due 5).map fun x => ii x) 3), (10, .row 1 N.length ((due 6).map fun x => ii x) 3), (11, .row 1 N.length ((due 7).map fun x => ii x) 3), (12, .row 1 N.length ((due 8).map fun x => ii x) 3), (13, .row 1 N.length ((due 9).map fun x => ii x) 3), (14, .row 1 N.length ((due 10).map fun x => ii x) 3), (15, .row 1 N.length ((due 11).map fun x => ii x) 3), (16, .row 1 N.length ((due 12).map fun x => ii x) 3), (17, .row 1 N.length ((due 13).map fun x => ii x) 3), (18, .row 1 N.length ((due 14).map fun x => ii x) 3), (19, .row 1 N.length ((due 15).map fun x => ii x) 3)]
/-- What a tick asks of a simulation. -/
structure SimOK (tk : Int) (N : List Prm) (S : List Syn) (st : List Ste) (due : Nat → List Int) (nin : Nat) : Prop where
  t0 : 0 ≤ tk
  t1 : tk < 100000000
  lst : st.length = N.length
  ld : ∀ j, j < 16 → (due j).length = N.length
  lN : N.length ≤ 1024
  lS : S.length ≤ 8192
  lin : nin < 4611686018427387904
  to0 : ∀ s ∈ S, 0 ≤ s.to
  to1 : ∀ s ∈ S, s.to < (N.length : Int)
  d0 : ∀ s ∈ S, 1 ≤ s.d
  d1 : ∀ s ∈ S, s.d ≤ 16
  ok : ∀ i (h : i < N.length) (h' : i < st.length), vld N[i] st[i] = 0
/-- What a tick makes of the states, which neurons have a spike; what is due then. -/
def nB (tk : Int) (N : List Prm) (st : List Ste) (due : Nat → List Int) : List Ste × List Int × List Int := nL N (due (slotN tk)) st
def nDue (tk : Int) (N : List Prm) (S : List Syn) (st : List Ste) (due : Nat → List Int) (ins : List Int) : Nat → List Int := (ylS S (srcK (nB tk N st due).2.1 ins)).foldl (dSt tk) (dClr (slotN tk) N.length due)
theorem nstep_spec (inp tk : Int) (N : List Prm) (S : List Syn) (st : List Ste) (due : Nat → List Int) (ins : List Int) (hok : SimOK tk N S st due ins.length) :
    BSpec Try.prog 36 [.ptr 0 0, .opq 21] (nsimM inp tk N S st due ++ [(21, .rwin 1 ins.length (ints ins))]) 22 [0, 3, 4, 5, 6, 7, 8, 9, 10, 11, 12, 13, 14, 15, 16, 17, 18, 19] (.opq 22) ((22, .row 1 (nB tk N st due).2.1.length ((nB tk N st due).2.1.map fun x => ii x) 3) :: nsimM inp (W (tk + 1)) N S (nB tk N st due).1 (nDue tk N S st due ins)) 23 := by
  have hvok := hok.ok
  obtain ⟨vd, hvd⟩ : ∃ f, vld = f := ⟨_, rfl⟩
  obtain ⟨sS, hsS⟩ : ∃ f, stepS = f := ⟨_, rfl⟩
  obtain ⟨sB, hsB⟩ : ∃ f, stepB = f := ⟨_, rfl⟩
  have hpf : PF.oks Try.prog [(55, FTick vld stepS stepB)] := ⟨tick_pure, trivial⟩
  rw [hvd, hsS, hsB] at hpf
  have hc : ∀ w L' rd, (∀ p, rd = some p → p ∈ L') → Cx.ok ⟨Try.prog, tab, [(55, FTick vd sS sB)], 36, Try.f36, [], w, L', rd⟩ := fun w L' rd h => ⟨tab_ok, hpf, Try.func36, mixed, h⟩
  refine BSpec.start (tab := tab) (pf := [(55, FTick vd sS sB)]) (cuts := []) Try.func36 rfl ⟨(show 0 < 22 by decide), (show 21 < 22 by decide), trivial⟩ rfl fun w L0 plp hL hLB hcov => Run.of_wpK (hc w L0 none (fun _ h => by cases h)) 100 _ ?_
  generalize hRR : SpecR _ _ _ _ _ _ = RR
  conv => whnf
  refine Run.callP (vs := [.ptr 0 0, ii 0]) (caps := []) (nrow_spec inp tk 0 hok.t0 (by have := hok.t1; omega) (by decide) (by decide)) (ent _ _ Try.func54 (by kernel_rfl) rfl) rfl rfl rfl rfl rfl rfl rfl (by decide) (by decide)
    ⟨⟨by omega, nsimC_sc _ _, ⟨_, rfl, Conv.refl _⟩, .inr (by simp), fun h => by cases h⟩, trivial⟩ (fun i hi => by simp at hi; subst hi; exact ⟨by omega, _, rfl⟩) (.opq (4 + slotN (tk + 0))) [(22, .pin plp), (23, .cells [.ptr 0 0] 91), (0, .cells (nsimC inp tk) 117), (1, .rwin 8 N.length (N.flatMap Prm.vals)), (2, swS S), (3, .row 2 N.length (st.flatMap Ste.cells) 119), (4, .row 1 N.length ((due 0).map fun x => ii x) 3), (5, .row 1 N.length ((due 1).map fun x => ii x) 3), (6, .row 1 N.length ((due 2).map fun x => ii x) 3), (7, .row 1 N.length ((due 3).map fun x => ii x) 3), (8, .row 1 N.length ((due 4).map fun x => ii x) 3), (9, .row 1 N.length ((due 5).map fun x => ii x) 3), (10, .row 1 N.length ((due 6).map fun x => ii x) 3), (11, .row 1 N.length ((due 7).map fun x => ii x) 3), (12, .row 1 N.length ((due 8).map fun x => ii x) 3), (13, .row 1 N.length ((due 9).map fun x => ii x) 3), (14, .row 1 N.length ((due 10).map fun x => ii x) 3), (15, .row 1 N.length ((due 11).map fun x => ii x) 3), (16, .row 1 N.length ((due 12).map fun x => ii x) 3), (17, .row 1 N.length ((due 13).map fun x => ii x) 3), (18, .row 1 N.length ((due 14).map fun x => ii x) 3), (19, .row 1 N.length ((due 15).map fun x => ii x) 3), (21, .rwin 1 ins.length (ints ins))] 24 (by show _ = SV.opq (sh 21 24 (4 + slotN (tk + 0))); rw [sh_lt (by have := slotN_lt (t := tk + 0); omega)]) rfl
    ⟨.inl ⟨rfl, by simp⟩, .inl ⟨rfl, by simp⟩, .inr ⟨0, _, rfl, rfl, by rw [oren_fix (S := (· < 21)) (fun i hi => sh_fix i hi) (o := .cells (nsimC inp tk) 117) (nsimC_sc _ _)], rfl⟩, .inl ⟨rfl, by simp⟩, .inl ⟨rfl, by simp⟩, .inl ⟨rfl, by simp⟩, .inl ⟨rfl, by simp⟩, .inl ⟨rfl, by simp⟩, .inl ⟨rfl, by simp⟩, .inl ⟨rfl, by simp⟩, .inl ⟨rfl, by simp⟩, .inl ⟨rfl, by simp⟩, .inl ⟨rfl, by simp⟩, .inl ⟨rfl, by simp⟩, .inl ⟨rfl, by simp⟩, .inl ⟨rfl, by simp⟩, .inl ⟨rfl, by simp⟩, .inl ⟨rfl, by simp⟩, .inl ⟨rfl, by simp⟩, .inl ⟨rfl, by simp⟩, .inl ⟨rfl, by simp⟩, .inl ⟨rfl, by simp⟩, .inl ⟨rfl, by simp⟩, trivial⟩ ?_
  rw [Int.add_zero]
  have hk16 := slotN_lt (t := tk)
  obtain ⟨k, hk⟩ : ∃ k, slotN tk = k := ⟨_, rfl⟩
  have hnB : nB tk N st due = nL N (due k) st := by unfold nB; rw [hk]
  rw [hk] at hk16 ⊢
  obtain ⟨A, hA⟩ : ∃ A, due k = A := ⟨_, rfl⟩
  have hlA : A.length = N.length := by rw [← hA]; exact hok.ld k hk16
  have hlst := hok.lst
  have hlN := hok.lN
  obtain ⟨B, hB⟩ : ∃ B, nL N A st = B := ⟨_, rfl⟩
  have hout : B.2.1.length ≤ 1024 := by rw [← hB]; exact Nat.le_trans (nY_out N A st N.length) hlN
  refine Run.of_wpK (hc w L0 none (fun _ h => by cases h)) 1000 _ ?_
  conv => whnf
  rw [opF_lenR (t := 28) (xs := A.map fun x => ii x) rfl rfl rfl rfl rfl (by rw [← hA]; rcases lt16 hk16 with rfl | rfl | rfl | rfl | rfl | rfl | rfl | rfl | rfl | rfl | rfl | rfl | rfl | rfl | rfl | rfl <;> rfl)]
  conv => whnf
  refine Run.nils (T' := [(2, .ptr 23 0), (1, .opq 21), (5, .opq 24), (6, .opq (4 + k)), (15, .opq (4 + k)), (16, ii (N.length : Int)), (17, ii ((0 : Nat) : Int))]) (M' := [(24, .row 1 (nY N A st 0).2.1.length ((nY N A st 0).2.1.map fun x => ii x) 3), (22, .pin plp), (23, .cells [.ptr 0 0] 91), (0, .cells (nsimC inp tk) 117), (1, .rwin 8 N.length (N.flatMap Prm.vals)), (2, swS S), (3, .row 2 N.length ((nY N A st 0).1.flatMap Ste.cells) 119), (4, .row 1 N.length ((due 0).map fun x => ii x) 3), (5, .row 1 N.length ((due 1).map fun x => ii x) 3), (6, .row 1 N.length ((due 2).map fun x => ii x) 3), (7, .row 1 N.length ((due 3).map fun x => ii x) 3), (8, .row 1 N.length ((due 4).map fun x => ii x) 3), (9, .row 1 N.length ((due 5).map fun x => ii x) 3), (10, .row 1 N.length ((due 6).map fun x => ii x) 3), (11, .row 1 N.length ((due 7).map fun x => ii x) 3), (12, .row 1 N.length ((due 8).map fun x => ii x) 3), (13, .row 1 N.length ((due 9).map fun x => ii x) 3), (14, .row 1 N.length ((due 10).map fun x => ii x) 3), (15, .row 1 N.length ((due 11).map fun x => ii x) 3), (16, .row 1 N.length ((due 12).map fun x => ii x) 3), (17, .row 1 N.length ((due 13).map fun x => ii x) 3), (18, .row 1 N.length ((due 14).map fun x => ii x) 3), (19, .row 1 N.length ((due 15).map fun x => ii x) 3), (21, .rwin 1 ins.length (ints ins))]) 1 (fun _ => .row 1 0 [] 3) (fun _ _ => .inl ⟨_, _, rfl⟩) ⟨⟨_, rfl, .inl rfl⟩, ⟨_, rfl, .inl rfl⟩, ⟨_, rfl, .inr (.inl ⟨rfl, 0, by decide, rfl⟩)⟩, ⟨_, rfl, .inl rfl⟩, ⟨_, rfl, .inl rfl⟩, ⟨_, rfl, .inl rfl⟩, ⟨_, rfl, .inl rfl⟩, trivial⟩ ⟨.inl ⟨0, by decide, rfl⟩, .inr ⟨_, rfl, .inl rfl⟩, .inr ⟨_, rfl, .inl rfl⟩, .inr ⟨_, rfl, .inl rfl⟩, .inr ⟨_, rfl, .inl rfl⟩, .inr ⟨_, rfl, .inl rfl⟩, .inr ⟨_, rfl, .inl rfl⟩, .inr ⟨_, rfl, .inl rfl⟩, .inr ⟨_, rfl, .inl rfl⟩, .inr ⟨_, rfl, .inl rfl⟩, .inr ⟨_, rfl, .inl rfl⟩, .inr ⟨_, rfl, .inl rfl⟩, .inr ⟨_, rfl, .inl rfl⟩, .inr ⟨_, rfl, .inl rfl⟩, .inr ⟨_, rfl, .inl rfl⟩, .inr ⟨_, rfl, .inl rfl⟩, .inr ⟨_, rfl, .inl rfl⟩, .inr ⟨_, rfl, .inl rfl⟩, .inr ⟨_, rfl, .inl rfl⟩, .inr ⟨_, rfl, .inl rfl⟩, .inr ⟨_, rfl, .inl rfl⟩, .inr ⟨_, rfl, .inl rfl⟩, .inr ⟨_, rfl, .inl rfl⟩, .inr ⟨_, rfl, .inl rfl⟩, trivial⟩ ?_
  refine Run.upToJ (T := fun i => [(2, .ptr 23 0), (1, .opq 21), (5, .opq 24), (6, .opq (4 + k)), (15, .opq (4 + k)), (16, ii (N.length : Int)), (17, ii ((i : Nat) : Int))]) (M := fun i => [(24, .row 1 (nY N A st i).2.1.length ((nY N A st i).2.1.map fun x => ii x) 3), (22, .pin plp), (23, .cells [.ptr 0 0] 91), (0, .cells (nsimC inp tk) 117), (1, .rwin 8 N.length (N.flatMap Prm.vals)), (2, swS S), (3, .row 2 N.length ((nY N A st i).1.flatMap Ste.cells) 119), (4, .row 1 N.length ((due 0).map fun x => ii x) 3), (5, .row 1 N.length ((due 1).map fun x => ii x) 3), (6, .row 1 N.length ((due 2).map fun x => ii x) 3), (7, .row 1 N.length ((due 3).map fun x => ii x) 3), (8, .row 1 N.length ((due 4).map fun x => ii x) 3), (9, .row 1 N.length ((due 5).map fun x => ii x) 3), (10, .row 1 N.length ((due 6).map fun x => ii x) 3), (11, .row 1 N.length ((due 7).map fun x => ii x) 3), (12, .row 1 N.length ((due 8).map fun x => ii x) 3), (13, .row 1 N.length ((due 9).map fun x => ii x) 3), (14, .row 1 N.length ((due 10).map fun x => ii x) 3), (15, .row 1 N.length ((due 11).map fun x => ii x) 3), (16, .row 1 N.length ((due 12).map fun x => ii x) 3), (17, .row 1 N.length ((due 13).map fun x => ii x) 3), (18, .row 1 N.length ((due 14).map fun x => ii x) 3), (19, .row 1 N.length ((due 15).map fun x => ii x) 3), (21, .rwin 1 ins.length (ints ins))]) (fun _ => True) N.length trivial ?_ ?_
  · intro i hi _ ih
    refine Run.of_wpK (hc w L0 none (fun _ h => by cases h)) 1000 _ ?_
    conv => whnf
    rw [decide_eq_true (show ((i : Nat) : Int) < (N.length : Int) by omega)]
    conv => whnf
    have en := nY_succ N A st i
    have hny := nY_len N A st i
    have hsi : i < (nY N A st i).1.length := by omega
    have hai : i < A.length := by omega
    have hgn : N.getD i prm0 = N[i] := by simp [List.getD_eq_getElem?_getD, hi]
    have hgs : (nY N A st i).1.getD i ste0 = (nY N A st i).1[i] := by simp [List.getD_eq_getElem?_getD, hsi]
    have hga : A.getD i 0 = A[i] := by simp [List.getD_eq_getElem?_getD, hai]
    unfold nStep at en
    simp only [hgn, hgs, hga] at en
    have hsti : i < st.length := by omega
    have hge : (nY N A st i).1[i] = st[i] := by
      have := nY_ge N A st i i (Nat.le_refl i)
      rw [List.getElem?_eq_getElem hsi, List.getElem?_eq_getElem hsti] at this
      exact Option.some.inj this
    have hvi : vd N[i] (nY N A st i).1[i] = 0 := by rw [hge, ← hvd]; exact hvok i hi hsti
    rw [hsS, hsB] at en
    rw [opF_indexR (t := 28) (xs := A.map fun x => ii x) rfl rfl rfl rfl (by rw [← hA]; rcases lt16 hk16 with rfl | rfl | rfl | rfl | rfl | rfl | rfl | rfl | rfl | rfl | rfl | rfl | rfl | rfl | rfl | rfl <;> rfl) rfl]
    conv => whnf
    refine ⟨by omega, ?_⟩
    conv => whnf
    rw [opF_loadR1 (l := A.map fun x => ii x) (c := ii A[i]) i rfl rfl (by rw [← hA]; rcases lt16 hk16 with rfl | rfl | rfl | rfl | rfl | rfl | rfl | rfl | rfl | rfl | rfl | rfl | rfl | rfl | rfl | rfl <;> rfl) rfl (by rw [idx_nat, Nat.mul_one]) (by rw [List.getElem?_map, List.getElem?_eq_getElem hai]; rfl)]
    conv => whnf
    refine Run.draw (hc w L0 none (fun _ h => by cases h)) 25 ?_
    rw [show upto 0 25 = upto 0 7 ++ (upto 7 1 ++ (upto 8 6 ++ (upto 14 1 ++ (upto 15 2 ++ upto 17 8)))) from rfl]
    simp only [drawK_app]
    conv => whnf
    refine ⟨by omega, ?_⟩
    conv => whnf
    rw [opF_loadW (f := Prm.vals) (l := N) i rfl rfl rfl rfl rfl Prm.vlen (by rw [idx_nat]) hi]
    conv => whnf
    refine ⟨by omega, ?_⟩
    conv => whnf
    rw [opF_loadR (f := Ste.cells) (l := (nY N A st i).1) i rfl rfl rfl rfl rfl (fun _ => rfl) (by rw [idx_nat]) hsi]
    conv => whnf
    rw [opF_callG (v := .tup [.agg [ii (sS N[i] (nY N A st i).1[i] A[i]).v, ii (sS N[i] (nY N A st i).1[i] A[i]).rest], .v (.bool (sB N[i] (nY N A st i).1[i] A[i])), ii 0]) (bs := []) rfl rfl rfl rfl (FTick_eq vd sS sB _ N[i] (nY N A st i).1[i] A[i] hvi)]
    conv => whnf
    refine ⟨by kernel_rfl, ?_⟩
    refine Run.of_wpK (hc w L0 none (fun _ h => by cases h)) 1000 _ ?_
    conv => whnf
    refine Run.draw (hc w L0 none (fun _ h => by cases h)) 8 ?_
    rw [show upto 0 8 = upto 0 7 ++ upto 7 1 from rfl]
    simp only [drawK_app]
    conv => whnf
    refine ⟨by omega, ?_⟩
    conv => whnf
    rw [opF_storeR (e := 2) (f := Ste.cells) (l := (nY N A st i).1) i (sS N[i] (nY N A st i).1[i] A[i]) rfl rfl rfl rfl rfl (fun _ => rfl) (by rw [idx_nat]) hsi (by decide) rfl rfl]
    conv => whnf
    refine ⟨by kernel_rfl, ?_⟩
    refine Run.of_wpK (hc w L0 none (fun _ h => by cases h)) 1000 _ ?_
    conv => whnf
    have hno := nY_out N A st i
    cases hsp : sB N[i] (nY N A st i).1[i] A[i]
    case false =>
      rw [hsp, if_neg (by decide)] at en
      conv => whnf
      exact Run.trim (T' := [(2, .ptr 23 0), (1, .opq 21), (5, .opq 24), (6, .opq (4 + k)), (15, .opq (4 + k)), (16, ii (N.length : Int)), (17, ii ((i + 1 : Nat) : Int))]) (M' := [(24, .row 1 (nY N A st (i + 1)).2.1.length ((nY N A st (i + 1)).2.1.map fun x => ii x) 3), (22, .pin plp), (23, .cells [.ptr 0 0] 91), (0, .cells (nsimC inp tk) 117), (1, .rwin 8 N.length (N.flatMap Prm.vals)), (2, swS S), (3, .row 2 N.length ((nY N A st (i + 1)).1.flatMap Ste.cells) 119), (4, .row 1 N.length ((due 0).map fun x => ii x) 3), (5, .row 1 N.length ((due 1).map fun x => ii x) 3), (6, .row 1 N.length ((due 2).map fun x => ii x) 3), (7, .row 1 N.length ((due 3).map fun x => ii x) 3), (8, .row 1 N.length ((due 4).map fun x => ii x) 3), (9, .row 1 N.length ((due 5).map fun x => ii x) 3), (10, .row 1 N.length ((due 6).map fun x => ii x) 3), (11, .row 1 N.length ((due 7).map fun x => ii x) 3), (12, .row 1 N.length ((due 8).map fun x => ii x) 3), (13, .row 1 N.length ((due 9).map fun x => ii x) 3), (14, .row 1 N.length ((due 10).map fun x => ii x) 3), (15, .row 1 N.length ((due 11).map fun x => ii x) 3), (16, .row 1 N.length ((due 12).map fun x => ii x) 3), (17, .row 1 N.length ((due 13).map fun x => ii x) 3), (18, .row 1 N.length ((due 14).map fun x => ii x) 3), (19, .row 1 N.length ((due 15).map fun x => ii x) 3), (21, .rwin 1 ins.length (ints ins))]) 25 ⟨⟨rfl, (show 23 < 25 by decide)⟩, ⟨rfl, (show 21 < 25 by decide)⟩, ⟨rfl, (show 24 < 25 by decide)⟩, ⟨rfl, (show 4 + k < 25 by omega)⟩, ⟨rfl, (show 4 + k < 25 by omega)⟩, ⟨rfl, trivial⟩, ⟨congrArg some (congrArg ii (wrap_succ (by omega))), trivial⟩, trivial⟩ ⟨⟨by rw [en]; rfl, by omega, scs_i _ _⟩, ⟨rfl, by omega, fun p hp => Nat.lt_of_lt_of_le (hcov.1 p hp) (show 22 ≤ 25 by decide)⟩, ⟨rfl, by omega, ⟨(show 0 < 25 by decide), trivial⟩⟩, ⟨rfl, by omega, SV.scs_lt (by decide) (nsimC_sc _ _)⟩, ⟨rfl, by omega, trivial⟩, ⟨rfl, by omega, trivial⟩, ⟨by rw [en]; rfl, by omega, scs_st _ _⟩, ⟨rfl, by omega, scs_i _ _⟩, ⟨rfl, by omega, scs_i _ _⟩, ⟨rfl, by omega, scs_i _ _⟩, ⟨rfl, by omega, scs_i _ _⟩, ⟨rfl, by omega, scs_i _ _⟩, ⟨rfl, by omega, scs_i _ _⟩, ⟨rfl, by omega, scs_i _ _⟩, ⟨rfl, by omega, scs_i _ _⟩, ⟨rfl, by omega, scs_i _ _⟩, ⟨rfl, by omega, scs_i _ _⟩, ⟨rfl, by omega, scs_i _ _⟩, ⟨rfl, by omega, scs_i _ _⟩, ⟨rfl, by omega, scs_i _ _⟩, ⟨rfl, by omega, scs_i _ _⟩, ⟨rfl, by omega, scs_i _ _⟩, ⟨rfl, by omega, scs_i _ _⟩, ⟨rfl, by omega, trivial⟩, trivial⟩ (fun p hp => by have := hLB p hp; omega) (ih trivial)
    rw [hsp, if_pos rfl] at en
    conv => whnf
    refine Run.append (hc w L0 none (fun _ h => by cases h)) rfl rfl rfl rfl rfl rfl rfl rfl rfl rfl rfl rfl rfl rfl rfl (by omega) ⟨by omega, by omega⟩ [(22, _), (23, _), (0, _), (1, _), (2, _), (3, _), (4, _), (5, _), (6, _), (7, _), (8, _), (9, _), (10, _), (11, _), (12, _), (13, _), (14, _), (15, _), (16, _), (17, _), (18, _), (19, _), (21, _)]
      (AllP.mem ⟨⟨rfl, by omega⟩, ⟨rfl, by omega⟩, ⟨rfl, by omega⟩, ⟨rfl, by omega⟩, ⟨rfl, by omega⟩, ⟨rfl, by omega⟩, ⟨rfl, by omega⟩, ⟨rfl, by omega⟩, ⟨rfl, by omega⟩, ⟨rfl, by omega⟩, ⟨rfl, by omega⟩, ⟨rfl, by omega⟩, ⟨rfl, by omega⟩, ⟨rfl, by omega⟩, ⟨rfl, by omega⟩, ⟨rfl, by omega⟩, ⟨rfl, by omega⟩, ⟨rfl, by omega⟩, ⟨rfl, by omega⟩, ⟨rfl, by omega⟩, ⟨rfl, by omega⟩, ⟨rfl, by omega⟩, ⟨rfl, by omega⟩, trivial⟩) ?_
    refine Run.of_wpK (hc w L0 none (fun _ h => by cases h)) 1000 _ ?_
    conv => whnf
    exact Run.trimR (T' := [(2, .ptr 23 0), (1, .opq 21), (5, .opq 24), (6, .opq (4 + k)), (15, .opq (4 + k)), (16, ii (N.length : Int)), (17, ii ((i + 1 : Nat) : Int))]) (M' := [(24, .row 1 (nY N A st (i + 1)).2.1.length ((nY N A st (i + 1)).2.1.map fun x => ii x) 3), (22, .pin plp), (23, .cells [.ptr 0 0] 91), (0, .cells (nsimC inp tk) 117), (1, .rwin 8 N.length (N.flatMap Prm.vals)), (2, swS S), (3, .row 2 N.length ((nY N A st (i + 1)).1.flatMap Ste.cells) 119), (4, .row 1 N.length ((due 0).map fun x => ii x) 3), (5, .row 1 N.length ((due 1).map fun x => ii x) 3), (6, .row 1 N.length ((due 2).map fun x => ii x) 3), (7, .row 1 N.length ((due 3).map fun x => ii x) 3), (8, .row 1 N.length ((due 4).map fun x => ii x) 3), (9, .row 1 N.length ((due 5).map fun x => ii x) 3), (10, .row 1 N.length ((due 6).map fun x => ii x) 3), (11, .row 1 N.length ((due 7).map fun x => ii x) 3), (12, .row 1 N.length ((due 8).map fun x => ii x) 3), (13, .row 1 N.length ((due 9).map fun x => ii x) 3), (14, .row 1 N.length ((due 10).map fun x => ii x) 3), (15, .row 1 N.length ((due 11).map fun x => ii x) 3), (16, .row 1 N.length ((due 12).map fun x => ii x) 3), (17, .row 1 N.length ((due 13).map fun x => ii x) 3), (18, .row 1 N.length ((due 14).map fun x => ii x) 3), (19, .row 1 N.length ((due 15).map fun x => ii x) 3), (21, .rwin 1 ins.length (ints ins))]) 24 59 25 (by decide) ⟨⟨rfl, (show 23 < 25 by decide)⟩, ⟨rfl, (show 21 < 25 by decide)⟩, ⟨rfl, (show 24 < 25 by decide)⟩, ⟨congrArg some (congrArg SV.opq (rs_fix (show 4 + k < 24 by omega)).symm), (show 4 + k < 25 by omega)⟩, ⟨congrArg some (congrArg SV.opq (rs_fix (show 4 + k < 24 by omega)).symm), (show 4 + k < 25 by omega)⟩, ⟨rfl, trivial⟩, ⟨congrArg some (congrArg ii (wrap_succ (by omega))), trivial⟩, trivial⟩ ⟨⟨by rw [en]; exact congrArg some (by simp only [SObj.ren]; rw [rens_fix (S := fun _ => False) (fun i hi => hi.elim) _ (scs_i _ _)]; simp only [List.map_append, List.length_append]; rfl), by omega, scs_i _ _⟩, ⟨congrArg some (oren_fix (S := (· < 24)) (o := .pin plp) (fun i hi => rs_fix hi) (fun p hp => Nat.lt_of_lt_of_le (hcov.1 p hp) (show 22 ≤ 24 by decide))).symm, by omega, fun p hp => Nat.lt_of_lt_of_le (hcov.1 p hp) (show 22 ≤ 25 by decide)⟩, ⟨congrArg some (oren_fix (S := (· < 24)) (o := .cells [.ptr 0 0] 91) (fun i hi => rs_fix hi) (⟨(show 0 < 24 by decide), trivial⟩)).symm, by omega, ⟨(show 0 < 25 by decide), trivial⟩⟩, ⟨congrArg some (oren_fix (S := (· < 24)) (o := .cells (nsimC inp tk) 117) (fun i hi => rs_fix hi) (SV.scs_lt (by decide) (nsimC_sc _ _))).symm, by omega, SV.scs_lt (by decide) (nsimC_sc _ _)⟩, ⟨congrArg some (oren_fix (S := (· < 24)) (o := .rwin 8 N.length (N.flatMap Prm.vals)) (fun i hi => rs_fix hi) (trivial)).symm, by omega, trivial⟩, ⟨congrArg some (oren_fix (S := (· < 24)) (o := swS S) (fun i hi => rs_fix hi) (trivial)).symm, by omega, trivial⟩, ⟨by rw [en]; exact congrArg some (by simp only [SObj.ren]; rw [rens_fix (S := fun _ => False) (fun i hi => hi.elim) _ (scs_st _ _)]), by omega, scs_st _ _⟩, ⟨congrArg some (oren_fix (S := (· < 24)) (o := .row 1 N.length ((due 0).map fun x => ii x) 3) (fun i hi => rs_fix hi) (scs_i _ _)).symm, by omega, scs_i _ _⟩, ⟨congrArg some (oren_fix (S := (· < 24)) (o := .row 1 N.length ((due 1).map fun x => ii x) 3) (fun i hi => rs_fix hi) (scs_i _ _)).symm, by omega, scs_i _ _⟩, ⟨congrArg some (oren_fix (S := (· < 24)) (o := .row 1 N.length ((due 2).map fun x => ii x) 3) (fun i hi => rs_fix hi) (scs_i _ _)).symm, by omega, scs_i _ _⟩, ⟨congrArg some (oren_fix (S := (· < 24)) (o := .row 1 N.length ((due 3).map fun x => ii x) 3) (fun i hi => rs_fix hi) (scs_i _ _)).symm, by omega, scs_i _ _⟩, ⟨congrArg some (oren_fix (S := (· < 24)) (o := .row 1 N.length ((due 4).map fun x => ii x) 3) (fun i hi => rs_fix hi) (scs_i _ _)).symm, by omega, scs_i _ _⟩, ⟨congrArg some (oren_fix (S := (· < 24)) (o := .row 1 N.length ((due 5).map fun x => ii x) 3) (fun i hi => rs_fix hi) (scs_i _ _)).symm, by omega, scs_i _ _⟩, ⟨congrArg some (oren_fix (S := (· < 24)) (o := .row 1 N.length ((due 6).map fun x => ii x) 3) (fun i hi => rs_fix hi) (scs_i _ _)).symm, by omega, scs_i _ _⟩, ⟨congrArg some (oren_fix (S := (· < 24)) (o := .row 1 N.length ((due 7).map fun x => ii x) 3) (fun i hi => rs_fix hi) (scs_i _ _)).symm, by omega, scs_i _ _⟩, ⟨congrArg some (oren_fix (S := (· < 24)) (o := .row 1 N.length ((due 8).map fun x => ii x) 3) (fun i hi => rs_fix hi) (scs_i _ _)).symm, by omega, scs_i _ _⟩, ⟨congrArg some (oren_fix (S := (· < 24)) (o := .row 1 N.length ((due 9).map fun x => ii x) 3) (fun i hi => rs_fix hi) (scs_i _ _)).symm, by omega, scs_i _ _⟩, ⟨congrArg some (oren_fix (S := (· < 24)) (o := .row 1 N.length ((due 10).map fun x => ii x) 3) (fun i hi => rs_fix hi) (scs_i _ _)).symm, by omega, scs_i _ _⟩, ⟨congrArg some (oren_fix (S := (· < 24)) (o := .row 1 N.length ((due 11).map fun x => ii x) 3) (fun i hi => rs_fix hi) (scs_i _ _)).symm, by omega, scs_i _ _⟩, ⟨congrArg some (oren_fix (S := (· < 24)) (o := .row 1 N.length ((due 12).map fun x => ii x) 3) (fun i hi => rs_fix hi) (scs_i _ _)).symm, by omega, scs_i _ _⟩, ⟨congrArg some (oren_fix (S := (· < 24)) (o := .row 1 N.length ((due 13).map fun x => ii x) 3) (fun i hi => rs_fix hi) (scs_i _ _)).symm, by omega, scs_i _ _⟩, ⟨congrArg some (oren_fix (S := (· < 24)) (o := .row 1 N.length ((due 14).map fun x => ii x) 3) (fun i hi => rs_fix hi) (scs_i _ _)).symm, by omega, scs_i _ _⟩, ⟨congrArg some (oren_fix (S := (· < 24)) (o := .row 1 N.length ((due 15).map fun x => ii x) 3) (fun i hi => rs_fix hi) (scs_i _ _)).symm, by omega, scs_i _ _⟩, ⟨congrArg some (oren_fix (S := (· < 24)) (o := .rwin 1 ins.length (ints ins)) (fun i hi => rs_fix hi) (trivial)).symm, by omega, trivial⟩, trivial⟩ (fun q hq => ⟨rs_fix (Nat.lt_of_lt_of_le (hLB q hq) (show 22 ≤ 24 by decide)), Nat.lt_of_lt_of_le (hLB q hq) (show 22 ≤ 25 by decide)⟩) (ih trivial)
  · intro _
    have hBe : nY N A st N.length = B := hB
    rw [hBe]
    refine Run.of_wpK (hc w L0 none (fun _ h => by cases h)) 1000 _ ?_
    conv => whnf
    rw [decide_eq_false (show ¬ ((N.length : Nat) : Int) < (N.length : Int) by omega)]
    conv => whnf
    have hrep : SObj.row 1 N.length (List.replicate N.length (.v (.int .i64 0))) 3 = SObj.row 1 N.length ((List.replicate N.length 0).map fun x => ii x) 3 := by rw [List.map_replicate]
    refine Run.clear1 (j := 4 + k) (xs := A.map fun x => ii x) (hc w L0 none (fun _ h => by cases h)) rfl rfl rfl rfl rfl (by rw [← hA]; rcases lt16 hk16 with rfl | rfl | rfl | rfl | rfl | rfl | rfl | rfl | rfl | rfl | rfl | rfl | rfl | rfl | rfl | rfl <;> rfl) rfl rfl rfl rfl rfl ?_
    apply joinN (c := ⟨Try.prog, tab, [(55, FTick vd sS sB)], 36, Try.f36, [], w, L0, none⟩) (R := RR) [(2, .ptr 23 0), (1, .opq 21), (5, .opq 24)] [(24, .row 1 B.2.1.length (B.2.1.map fun x => ii x) 3), (22, .pin plp), (23, .cells [.ptr 0 0] 91), (0, .cells (nsimC inp tk) 117), (1, .rwin 8 N.length (N.flatMap Prm.vals)), (2, swS S), (3, .row 2 N.length (B.1.flatMap Ste.cells) 119), (4, .row 1 N.length ((dClr k N.length due 0).map fun x => ii x) 3), (5, .row 1 N.length ((dClr k N.length due 1).map fun x => ii x) 3), (6, .row 1 N.length ((dClr k N.length due 2).map fun x => ii x) 3), (7, .row 1 N.length ((dClr k N.length due 3).map fun x => ii x) 3), (8, .row 1 N.length ((dClr k N.length due 4).map fun x => ii x) 3), (9, .row 1 N.length ((dClr k N.length due 5).map fun x => ii x) 3), (10, .row 1 N.length ((dClr k N.length due 6).map fun x => ii x) 3), (11, .row 1 N.length ((dClr k N.length due 7).map fun x => ii x) 3), (12, .row 1 N.length ((dClr k N.length due 8).map fun x => ii x) 3), (13, .row 1 N.length ((dClr k N.length due 9).map fun x => ii x) 3), (14, .row 1 N.length ((dClr k N.length due 10).map fun x => ii x) 3), (15, .row 1 N.length ((dClr k N.length due 11).map fun x => ii x) 3), (16, .row 1 N.length ((dClr k N.length due 12).map fun x => ii x) 3), (17, .row 1 N.length ((dClr k N.length due 13).map fun x => ii x) 3), (18, .row 1 N.length ((dClr k N.length due 14).map fun x => ii x) 3), (19, .row 1 N.length ((dClr k N.length due 15).map fun x => ii x) 3), (21, .rwin 1 ins.length (ints ins))] 25
    · intro cont
      rcases lt16 hk16 with rfl | rfl | rfl | rfl | rfl | rfl | rfl | rfl | rfl | rfl | rfl | rfl | rfl | rfl | rfl | rfl <;> exact Run.trimH cont ⟨⟨rfl, (show 23 < 25 by decide)⟩, ⟨rfl, (show 21 < 25 by decide)⟩, ⟨rfl, (show 24 < 25 by decide)⟩, trivial⟩ ⟨⟨rfl, by omega, scs_i _ _⟩, ⟨rfl, by omega, fun p hp => Nat.lt_of_lt_of_le (hcov.1 p hp) (show 22 ≤ 25 by decide)⟩, ⟨rfl, by omega, ⟨(show 0 < 25 by decide), trivial⟩⟩, ⟨rfl, by omega, SV.scs_lt (by decide) (nsimC_sc _ _)⟩, ⟨rfl, by omega, trivial⟩, ⟨rfl, by omega, trivial⟩, ⟨rfl, by omega, scs_st _ _⟩, ⟨by first | rfl | exact congrArg some hrep, by omega, scs_i _ _⟩, ⟨by first | rfl | exact congrArg some hrep, by omega, scs_i _ _⟩, ⟨by first | rfl | exact congrArg some hrep, by omega, scs_i _ _⟩, ⟨by first | rfl | exact congrArg some hrep, by omega, scs_i _ _⟩, ⟨by first | rfl | exact congrArg some hrep, by omega, scs_i _ _⟩, ⟨by first | rfl | exact congrArg some hrep, by omega, scs_i _ _⟩, ⟨by first | rfl | exact congrArg some hrep, by omega, scs_i _ _⟩, ⟨by first | rfl | exact congrArg some hrep, by omega, scs_i _ _⟩, ⟨by first | rfl | exact congrArg some hrep, by omega, scs_i _ _⟩, ⟨by first | rfl | exact congrArg some hrep, by omega, scs_i _ _⟩, ⟨by first | rfl | exact congrArg some hrep, by omega, scs_i _ _⟩, ⟨by first | rfl | exact congrArg some hrep, by omega, scs_i _ _⟩, ⟨by first | rfl | exact congrArg some hrep, by omega, scs_i _ _⟩, ⟨by first | rfl | exact congrArg some hrep, by omega, scs_i _ _⟩, ⟨by first | rfl | exact congrArg some hrep, by omega, scs_i _ _⟩, ⟨by first | rfl | exact congrArg some hrep, by omega, scs_i _ _⟩, ⟨rfl, by omega, trivial⟩, trivial⟩ (fun p hp => by have := hLB p hp; omega)
    obtain ⟨due1, hd1⟩ : ∃ d, dClr k N.length due = d := ⟨_, rfl⟩
    have hld1 : ∀ j, j < 16 → (due1 j).length = N.length := by rw [← hd1]; exact fun j hj => dClr_len hok.ld j hj
    rw [hd1]
    refine Run.of_wpK (hc w L0 none (fun _ h => by cases h)) 1000 _ ?_
    conv => whnf
    refine Run.callK nfrom_spec (ent _ _ Try.func56 (by kernel_rfl) rfl) rfl rfl rfl rfl rfl rfl rfl [.mp 2, .opq 24, .opq 21] rfl (rq [(0, 2), (1, 24), (2, 21)]) rfl (fun i hi => by have : i = 0 ∨ i = 1 ∨ i = 2 := (by omega); rcases this with rfl | rfl | rfl <;> decide) [] rfl (fun i hi => by cases hi) rfl
      trivial rfl trivial (fun i hi => by cases hi) (.fn 64 [.ptr 25 0, .ptr 26 0, .ptr 27 0]) [(25, .cells [.mp 2] 111), (26, .cells [.opq 24] 28), (27, .cells [.opq 21] 28)] [(24, .row 1 B.2.1.length (B.2.1.map fun x => ii x) 3), (22, .pin plp), (23, .cells [.ptr 0 0] 91), (0, .cells (nsimC inp tk) 117), (1, .rwin 8 N.length (N.flatMap Prm.vals)), (2, swS S), (3, .row 2 N.length (B.1.flatMap Ste.cells) 119), (4, .row 1 N.length ((due1 0).map fun x => ii x) 3), (5, .row 1 N.length ((due1 1).map fun x => ii x) 3), (6, .row 1 N.length ((due1 2).map fun x => ii x) 3), (7, .row 1 N.length ((due1 3).map fun x => ii x) 3), (8, .row 1 N.length ((due1 4).map fun x => ii x) 3), (9, .row 1 N.length ((due1 5).map fun x => ii x) 3), (10, .row 1 N.length ((due1 6).map fun x => ii x) 3), (11, .row 1 N.length ((due1 7).map fun x => ii x) 3), (12, .row 1 N.length ((due1 8).map fun x => ii x) 3), (13, .row 1 N.length ((due1 9).map fun x => ii x) 3), (14, .row 1 N.length ((due1 10).map fun x => ii x) 3), (15, .row 1 N.length ((due1 11).map fun x => ii x) 3), (16, .row 1 N.length ((due1 12).map fun x => ii x) 3), (17, .row 1 N.length ((due1 13).map fun x => ii x) 3), (18, .row 1 N.length ((due1 14).map fun x => ii x) 3), (19, .row 1 N.length ((due1 15).map fun x => ii x) 3), (21, .rwin 1 ins.length (ints ins))] 28 rfl rfl ⟨⟨3, _, rfl, rfl, rfl, rfl⟩, ⟨4, _, rfl, rfl, rfl, rfl⟩, ⟨5, _, rfl, rfl, rfl, rfl⟩, trivial⟩ rfl rfl ?_
    refine Run.of_wpK (hc w L0 none (fun _ h => by cases h)) 1000 _ ?_
    conv => whnf
    obtain ⟨xl, hxl⟩ : ∃ l, ylS S (srcK B.2.1 ins) = l := ⟨_, rfl⟩
    have hxm : ∀ s ∈ xl, s ∈ S := fun s hs => by
      rw [← hxl] at hs
      obtain ⟨q, _, hq⟩ := List.mem_flatMap.1 hs
      exact (List.mem_filter.1 hq).1
    refine Run.rangeX (T0 := [(2, .ptr 23 0), (5, .opq 24)]) (caps := [.ptr 25 0, .ptr 26 0, .ptr 27 0]) rfl (x := .tmp 63) rfl rfl (ent _ _ Try.func64 (by kernel_rfl) rfl) (fun i => [(24, .row 1 B.2.1.length (B.2.1.map fun x => ii x) 3), (25, .cells [.mp 2] 111), (26, .cells [.opq 24] 28), (27, .cells [.opq 21] 28), (22, .pin plp), (23, .cells [.ptr 0 0] 91), (0, .cells (nsimC inp tk) 117), (1, .rwin 8 N.length (N.flatMap Prm.vals)), (2, swS S), (3, .row 2 N.length (B.1.flatMap Ste.cells) 119), (4, .row 1 N.length ((dY tk due1 (ylS S (srcK B.2.1 ins)) i 0).map fun x => ii x) 3), (5, .row 1 N.length ((dY tk due1 (ylS S (srcK B.2.1 ins)) i 1).map fun x => ii x) 3), (6, .row 1 N.length ((dY tk due1 (ylS S (srcK B.2.1 ins)) i 2).map fun x => ii x) 3), (7, .row 1 N.length ((dY tk due1 (ylS S (srcK B.2.1 ins)) i 3).map fun x => ii x) 3), (8, .row 1 N.length ((dY tk due1 (ylS S (srcK B.2.1 ins)) i 4).map fun x => ii x) 3), (9, .row 1 N.length ((dY tk due1 (ylS S (srcK B.2.1 ins)) i 5).map fun x => ii x) 3), (10, .row 1 N.length ((dY tk due1 (ylS S (srcK B.2.1 ins)) i 6).map fun x => ii x) 3), (11, .row 1 N.length ((dY tk due1 (ylS S (srcK B.2.1 ins)) i 7).map fun x => ii x) 3), (12, .row 1 N.length ((dY tk due1 (ylS S (srcK B.2.1 ins)) i 8).map fun x => ii x) 3), (13, .row 1 N.length ((dY tk due1 (ylS S (srcK B.2.1 ins)) i 9).map fun x => ii x) 3), (14, .row 1 N.length ((dY tk due1 (ylS S (srcK B.2.1 ins)) i 10).map fun x => ii x) 3), (15, .row 1 N.length ((dY tk due1 (ylS S (srcK B.2.1 ins)) i 11).map fun x => ii x) 3), (16, .row 1 N.length ((dY tk due1 (ylS S (srcK B.2.1 ins)) i 12).map fun x => ii x) 3), (17, .row 1 N.length ((dY tk due1 (ylS S (srcK B.2.1 ins)) i 13).map fun x => ii x) 3), (18, .row 1 N.length ((dY tk due1 (ylS S (srcK B.2.1 ins)) i 14).map fun x => ii x) 3), (19, .row 1 N.length ((dY tk due1 (ylS S (srcK B.2.1 ins)) i 15).map fun x => ii x) 3), (21, .rwin 1 ins.length (ints ins))]) [24, 25, 26, 27, 22, 23, 0, 3, 4, 5, 6, 7, 8, 9, 10, 11, 12, 13, 14, 15, 16, 17, 18, 19] (ylV S (srcK B.2.1 ins)) (by simp) ?_ ?_ ?_ ?_ ?_ ?_
      (fun ρ w1 w2 => ∀ m, w.heap[ρ.s 2]? = some (kobj m) → (∀ x ∈ m, x.1.pair = false) → (∀ k, RowIn w (fun b => b < w.heap.size ∧ ∀ p ∈ L0, p.2 ≠ b) (kval m k) 4 (synAt S k).length ((synAt S k).flatMap Syn.vals)) → FRaw S (ρ.s 25) (ρ.s 2) m (ρ.s 26) ((SV.opq 24).conc ρ) B.2.1 (ρ.s 27) ((SV.opq 21).conc ρ) ins w2) ?_ ?_ ?_ ?_
    · exact AllP.mem (l := [64]) ⟨Nat.le_of_ble_eq_true rfl, trivial⟩
    · intro v hv
      obtain ⟨s, _, rfl⟩ := List.mem_map.1 hv
      rfl
    · exact AllP.mem ⟨rfl, rfl, trivial⟩
    · exact AllP.mem ⟨rfl, rfl, rfl, rfl, rfl, rfl, rfl, rfl, rfl, rfl, rfl, rfl, rfl, rfl, rfl, rfl, rfl, rfl, rfl, rfl, rfl, rfl, rfl, rfl, rfl, rfl, rfl, trivial⟩
    · exact fun i => AllP.mem ⟨⟨rfl, by omega, scs_i _ _, .inr ⟨rfl, by simp, _, rfl, fun _ h => h⟩⟩, ⟨rfl, by omega, ⟨(show 2 < 30 by decide), trivial⟩, .inr ⟨rfl, by simp, _, rfl, fun _ h => h⟩⟩, ⟨rfl, by omega, ⟨(show 24 < 30 by decide), trivial⟩, .inr ⟨rfl, by simp, _, rfl, fun _ h => h⟩⟩, ⟨rfl, by omega, ⟨(show 21 < 30 by decide), trivial⟩, .inr ⟨rfl, by simp, _, rfl, fun _ h => h⟩⟩, ⟨rfl, by omega, fun p hp => Nat.lt_of_lt_of_le (hcov.1 p hp) (show 22 ≤ 30 by decide), .inr ⟨rfl, by simp, _, rfl, fun _ h => h⟩⟩, ⟨rfl, by omega, ⟨(show 0 < 30 by decide), trivial⟩, .inr ⟨rfl, by simp, _, rfl, fun _ h => h⟩⟩, ⟨rfl, by omega, SV.scs_lt (by decide) (nsimC_sc _ _), .inr ⟨rfl, by simp, _, rfl, fun _ h => h⟩⟩, ⟨rfl, by omega, trivial, .inl ⟨rfl, by simp, fun j => rfl⟩⟩, ⟨rfl, by omega, trivial, .inl ⟨rfl, by simp, fun j => rfl⟩⟩, ⟨rfl, by omega, scs_st _ _, .inr ⟨rfl, by simp, _, rfl, fun _ h => h⟩⟩, ⟨rfl, by omega, scs_i _ _, .inr ⟨rfl, by simp, _, rfl, fun _ h => h⟩⟩, ⟨rfl, by omega, scs_i _ _, .inr ⟨rfl, by simp, _, rfl, fun _ h => h⟩⟩, ⟨rfl, by omega, scs_i _ _, .inr ⟨rfl, by simp, _, rfl, fun _ h => h⟩⟩, ⟨rfl, by omega, scs_i _ _, .inr ⟨rfl, by simp, _, rfl, fun _ h => h⟩⟩, ⟨rfl, by omega, scs_i _ _, .inr ⟨rfl, by simp, _, rfl, fun _ h => h⟩⟩, ⟨rfl, by omega, scs_i _ _, .inr ⟨rfl, by simp, _, rfl, fun _ h => h⟩⟩, ⟨rfl, by omega, scs_i _ _, .inr ⟨rfl, by simp, _, rfl, fun _ h => h⟩⟩, ⟨rfl, by omega, scs_i _ _, .inr ⟨rfl, by simp, _, rfl, fun _ h => h⟩⟩, ⟨rfl, by omega, scs_i _ _, .inr ⟨rfl, by simp, _, rfl, fun _ h => h⟩⟩, ⟨rfl, by omega, scs_i _ _, .inr ⟨rfl, by simp, _, rfl, fun _ h => h⟩⟩, ⟨rfl, by omega, scs_i _ _, .inr ⟨rfl, by simp, _, rfl, fun _ h => h⟩⟩, ⟨rfl, by omega, scs_i _ _, .inr ⟨rfl, by simp, _, rfl, fun _ h => h⟩⟩, ⟨rfl, by omega, scs_i _ _, .inr ⟨rfl, by simp, _, rfl, fun _ h => h⟩⟩, ⟨rfl, by omega, scs_i _ _, .inr ⟨rfl, by simp, _, rfl, fun _ h => h⟩⟩, ⟨rfl, by omega, scs_i _ _, .inr ⟨rfl, by simp, _, rfl, fun _ h => h⟩⟩, ⟨rfl, by omega, scs_i _ _, .inr ⟨rfl, by simp, _, rfl, fun _ h => h⟩⟩, ⟨rfl, by omega, trivial, .inl ⟨rfl, by simp, fun j => rfl⟩⟩, trivial⟩
    · decide
    · intro ρ w1 hW1 l N0 J hext hJ hy
      obtain ⟨_, _, h20, ⟨hs1, hs2⟩, m, hm, hmk, hrow⟩ := hW1.mem 2 _ rfl
      have e : SV.concs ρ [.ptr 25 0, .ptr 26 0, .ptr 27 0] = [Value.pointer (some ⟨ρ.s 25, 0, none⟩), Value.pointer (some ⟨ρ.s 26, 0, none⟩), Value.pointer (some ⟨ρ.s 27, 0, none⟩)] := by
        have o25 : ρ.o 25 = 0 := (hW1.mem 25 _ rfl).2.2.1
        have o26 : ρ.o 26 = 0 := (hW1.mem 26 _ rfl).2.2.1
        have o27 : ρ.o 27 = 0 := (hW1.mem 27 _ rfl).2.2.1
        simp only [SV.concs, SV.conc, o25, o26, o27]
      rw [e]
      exact from_iterN S hok.lS (ρ.s 25) (ρ.s 2) m (ρ.s 26) _ B.2.1 (ρ.s 27) _ ins (by have := hout; omega) hok.lin l N0 J hext (fun i w2 h => ⟨(hJ i w2 h).1 m hm hmk hrow, (hJ i w2 h).2⟩) hy
    · intro ρ w1 i L' ρ' a d w2 hW1 hwid hW2 hag m hm hmk hrow
      have ha : ∀ j, j < 28 → ρ'.s j = ρ.s j ∧ ρ'.o j = ρ.o j ∧ ρ'.h j = ρ.h j := fun j hj => hag j hj
      obtain ⟨_, _, h20, ⟨hs1, hs2⟩, _⟩ := hW2.mem 2 (swS S) rfl
      have s2 := (ha 2 (by decide)).1
      have hcell : ∀ (j : Nat) (x : SV) (t : TypeId), j < 28 → Sx.look (inLoop 28 a _ _ _ _ d [(24, .row 1 B.2.1.length (B.2.1.map fun x => ii x) 3), (25, .cells [.mp 2] 111), (26, .cells [.opq 24] 28), (27, .cells [.opq 21] 28), (22, .pin plp), (23, .cells [.ptr 0 0] 91), (0, .cells (nsimC inp tk) 117), (1, .rwin 8 N.length (N.flatMap Prm.vals)), (2, swS S), (3, .row 2 N.length (B.1.flatMap Ste.cells) 119), (4, .row 1 N.length ((dY tk due1 (ylS S (srcK B.2.1 ins)) i 0).map fun x => ii x) 3), (5, .row 1 N.length ((dY tk due1 (ylS S (srcK B.2.1 ins)) i 1).map fun x => ii x) 3), (6, .row 1 N.length ((dY tk due1 (ylS S (srcK B.2.1 ins)) i 2).map fun x => ii x) 3), (7, .row 1 N.length ((dY tk due1 (ylS S (srcK B.2.1 ins)) i 3).map fun x => ii x) 3), (8, .row 1 N.length ((dY tk due1 (ylS S (srcK B.2.1 ins)) i 4).map fun x => ii x) 3), (9, .row 1 N.length ((dY tk due1 (ylS S (srcK B.2.1 ins)) i 5).map fun x => ii x) 3), (10, .row 1 N.length ((dY tk due1 (ylS S (srcK B.2.1 ins)) i 6).map fun x => ii x) 3), (11, .row 1 N.length ((dY tk due1 (ylS S (srcK B.2.1 ins)) i 7).map fun x => ii x) 3), (12, .row 1 N.length ((dY tk due1 (ylS S (srcK B.2.1 ins)) i 8).map fun x => ii x) 3), (13, .row 1 N.length ((dY tk due1 (ylS S (srcK B.2.1 ins)) i 9).map fun x => ii x) 3), (14, .row 1 N.length ((dY tk due1 (ylS S (srcK B.2.1 ins)) i 10).map fun x => ii x) 3), (15, .row 1 N.length ((dY tk due1 (ylS S (srcK B.2.1 ins)) i 11).map fun x => ii x) 3), (16, .row 1 N.length ((dY tk due1 (ylS S (srcK B.2.1 ins)) i 12).map fun x => ii x) 3), (17, .row 1 N.length ((dY tk due1 (ylS S (srcK B.2.1 ins)) i 13).map fun x => ii x) 3), (18, .row 1 N.length ((dY tk due1 (ylS S (srcK B.2.1 ins)) i 14).map fun x => ii x) 3), (19, .row 1 N.length ((dY tk due1 (ylS S (srcK B.2.1 ins)) i 15).map fun x => ii x) 3), (21, .rwin 1 ins.length (ints ins))]) j = some (.cells [x] t) → w2.cell? ⟨ρ.s j, 0, none⟩ = some (x.conc ρ') := fun j x t hj hl => by
        have hc := hW2.cell hl (cs := [x]) rfl (j := 0) (c := x) rfl
        have ho : ρ'.o j = 0 := (hW2.mem j _ hl).2.2.1
        rw [ho, (ha j hj).1] at hc
        exact hc
      have cag : ∀ j, j < 28 → (SV.opq j).conc ρ' = (SV.opq j).conc ρ := fun j hj => by simp only [SV.conc, (ha j hj).2.2]
      refine ⟨⟨?_, ?_, hmk, fun k => (hrow k).mono fun b hb => ⟨trivial, ?_⟩⟩, ?_, ?_, ?_, ?_⟩
      · have := hcell 25 (.mp 2) 111 (by decide) rfl
        rw [this]
        simp only [SV.conc, h20, s2, if_true]
      · rw [hW2.keep _ (by rw [← s2]; exact hs1) (fun p hp => by rw [← s2]; exact hs2 p hp)]; exact hm
      · rw [hW2.keep b hb.1 (fun p hp he => by
          rcases hwid.own p hp with ⟨q, hq, hqe⟩ | hge
          · exact hb.2 q hq (hqe.trans he)
          · have h1 := hb.1
            have hge : w.heap.size ≤ p.2 := hge
            omega)]
      · rw [← cag 24 (by decide)]; exact hcell 26 (.opq 24) 28 (by decide) rfl
      · rw [← cag 24 (by decide)]
        have := hW2.rowsAtR (i := 24) rfl (by decide)
        rwa [show (B.2.1.map fun x => ii x) = (ints B.2.1).map .v by simp [ints], concs_v] at this
      · rw [← cag 21 (by decide)]; exact hcell 27 (.opq 21) 28 (by decide) rfl
      · rw [← cag 21 (by decide)]; exact hW2.rowsAt (i := 21) rfl
    · intro i v hv w1 L1 l a d pl hL1 hl hcov1
      obtain ⟨hil, hve⟩ : ∃ h : i < xl.length, v = [.agg xl[i].vals.toArray] := by
        unfold ylV at hv
        rw [hxl, List.getElem?_map] at hv
        rcases Nat.lt_or_ge i xl.length with h | h
        · rw [List.getElem?_eq_getElem h] at hv
          exact ⟨h, (Option.some.inj hv).symm⟩
        · rw [List.getElem?_eq_none h] at hv; cases hv
      obtain ⟨s, hs⟩ : ∃ s, xl[i] = s := ⟨_, rfl⟩
      have hsS : s ∈ S := hxm s (by rw [← hs]; exact List.getElem_mem hil)
      have to0 := hok.to0 s hsS
      have to1 := hok.to1 s hsS
      have d0 := hok.d0 s hsS
      have d1 := hok.d1 s hsS
      have ht0 := hok.t0
      have ht1 := hok.t1
      rw [hs] at hve
      subst hve
      obtain ⟨k2, hk2⟩ : ∃ k, slotN (tk + s.d) = k := ⟨_, rfl⟩
      have hk2l : k2 < 16 := by rw [← hk2]; exact slotN_lt
      have hdl : ∀ j, j < 16 → ((dY tk due1 (ylS S (srcK B.2.1 ins)) i) j).length = N.length := fun j hj => by rw [dY_len]; exact hld1 j hj
      have htl : s.to.toNat < ((dY tk due1 (ylS S (srcK B.2.1 ins)) i) k2).length := by rw [hdl k2 hk2l]; omega
      have hdn : dY tk due1 (ylS S (srcK B.2.1 ins)) (i + 1) = fun j => if j = k2 then ((dY tk due1 (ylS S (srcK B.2.1 ins)) i) j).set s.to.toNat (W (((dY tk due1 (ylS S (srcK B.2.1 ins)) i) j).getD s.to.toNat 0 + s.w)) else (dY tk due1 (ylS S (srcK B.2.1 ins)) i) j := by
        rw [dY_succ tk due1 (show i < (ylS S (srcK B.2.1 ins)).length by rw [hxl]; exact hil)]
        have e : (ylS S (srcK B.2.1 ins))[i]'(by rw [hxl]; exact hil) = s := by rw [← hs]; exact getElem_congr hxl rfl _
        rw [e]
        unfold dSt
        rw [hk2]
      have hset : (((dY tk due1 (ylS S (srcK B.2.1 ins)) i) k2).map fun x => ii x).set s.to.toNat (ii (W (((dY tk due1 (ylS S (srcK B.2.1 ins)) i) k2)[s.to.toNat] + s.w))) = (((dY tk due1 (ylS S (srcK B.2.1 ins)) i) k2).set s.to.toNat (W (((dY tk due1 (ylS S (srcK B.2.1 ins)) i) k2).getD s.to.toNat 0 + s.w))).map fun x => ii x := by
        rw [List.map_set, List.getD_eq_getElem?_getD, List.getElem?_eq_getElem htl]; rfl
      have hlid : ∀ p ∈ L1, p.1 < 31 := fun p hp => by
        rcases hL1 p hp with h | h | h
        · omega
        · omega
        · have : ∀ q ∈ ([24, 25, 26, 27, 22, 23, 0, 3, 4, 5, 6, 7, 8, 9, 10, 11, 12, 13, 14, 15, 16, 17, 18, 19] : List Nat), q < 31 := by decide
          exact this _ h
      refine Run.of_wpK (hc w1 L1 (some (29, l)) (fun q hq => by obtain rfl := Option.some.inj hq; exact hl)) 1000 _ ?_
      conv => whnf
      refine Run.drawE (hc w1 L1 (some (29, l)) (fun q hq => by obtain rfl := Option.some.inj hq; exact hl)) rfl fun lo hlo => ?_
      obtain ⟨p, r, rfl, hp, hr, hex, hsp, hsr, hbef, haft, hcl⟩ := hlo.split 3 (by decide)
      have b0 : 0 ∈ p := hbef 0 (tp_of rfl)
      have b1 : 1 ∈ p := hbef 1 (tp_of rfl)
      have b2 : 2 ∈ p := hbef 2 (tp_of rfl)
      obtain ⟨a6, n6⟩ := haft 6 (tp_of rfl) (by decide)
      obtain ⟨a7, n7⟩ := haft 7 (tp_of rfl) (by decide)
      obtain ⟨a10, n10⟩ := haft 10 (tp_of rfl) (by decide)
      obtain ⟨a11, n11⟩ := haft 11 (tp_of rfl) (by decide)
      obtain ⟨a12, n12⟩ := haft 12 (tp_of rfl) (by decide)
      have dis : ∀ i, i < 13 → i ∈ p → i ∉ r := fun i hi hip => by
        by_cases e : i = 3
        · subst e; exact hsr
        · rcases hex i hi e with h | h
          · exact h.2
          · exact absurd hip h.1
      have inr : ∀ i, i < 13 → i ≠ 3 → i ∉ p → i ∈ r := fun i hi e hip => by
        rcases hex i hi e with h | h
        · exact absurd h.1 hip
        · exact h.2
      have three : ∀ a b : Nat, TP _ a b → (a ∈ p ∧ b ∈ p) ∨ (a ∈ p ∧ b ∉ p) ∨ (a ∉ p ∧ b ∉ p) := fun a b ht => by
        by_cases ca : a ∈ p
        · by_cases cb : b ∈ p
          · exact .inl ⟨ca, cb⟩
          · exact .inr (.inl ⟨ca, cb⟩)
        · exact .inr (.inr ⟨ca, fun h => ca (hcl a b ht h)⟩)
      rcases three 4 5 (tp_of rfl) with ⟨c4, c5⟩ | ⟨c4, c5⟩ | ⟨c4, c5⟩ <;> rcases three 8 9 (tp_of rfl) with ⟨c8, c9⟩ | ⟨c8, c9⟩ | ⟨c8, c9⟩
      refine Run.perm (hc w1 L1 (some (29, l)) (fun q hq => by obtain rfl := Option.some.inj hq; exact hl)) [0, 1, 2, 4, 5, 8, 9] [3, 6, 7, 10, 11, 12] hp ⟨b0, b1, b2, c4, c5, c8, c9, trivial⟩ ⟨hsp, n6, n7, n10, n11, n12, trivial⟩ (by decide) rfl ?_
      rotate_left
      refine Run.perm (hc w1 L1 (some (29, l)) (fun q hq => by obtain rfl := Option.some.inj hq; exact hl)) [0, 1, 2, 4, 5, 8] [3, 6, 7, 9, 10, 11, 12] hp ⟨b0, b1, b2, c4, c5, c8, trivial⟩ ⟨hsp, n6, n7, c9, n10, n11, n12, trivial⟩ (by decide) rfl ?_
      rotate_left
      refine Run.perm (hc w1 L1 (some (29, l)) (fun q hq => by obtain rfl := Option.some.inj hq; exact hl)) [0, 1, 2, 4, 5] [3, 6, 7, 8, 9, 10, 11, 12] hp ⟨b0, b1, b2, c4, c5, trivial⟩ ⟨hsp, n6, n7, c8, c9, n10, n11, n12, trivial⟩ (by decide) rfl ?_
      rotate_left
      refine Run.perm (hc w1 L1 (some (29, l)) (fun q hq => by obtain rfl := Option.some.inj hq; exact hl)) [0, 1, 2, 4, 8, 9] [3, 5, 6, 7, 10, 11, 12] hp ⟨b0, b1, b2, c4, c8, c9, trivial⟩ ⟨hsp, c5, n6, n7, n10, n11, n12, trivial⟩ (by decide) rfl ?_
      rotate_left
      refine Run.perm (hc w1 L1 (some (29, l)) (fun q hq => by obtain rfl := Option.some.inj hq; exact hl)) [0, 1, 2, 4, 8] [3, 5, 6, 7, 9, 10, 11, 12] hp ⟨b0, b1, b2, c4, c8, trivial⟩ ⟨hsp, c5, n6, n7, c9, n10, n11, n12, trivial⟩ (by decide) rfl ?_
      rotate_left
      refine Run.perm (hc w1 L1 (some (29, l)) (fun q hq => by obtain rfl := Option.some.inj hq; exact hl)) [0, 1, 2, 4] [3, 5, 6, 7, 8, 9, 10, 11, 12] hp ⟨b0, b1, b2, c4, trivial⟩ ⟨hsp, c5, n6, n7, c8, c9, n10, n11, n12, trivial⟩ (by decide) rfl ?_
      rotate_left
      refine Run.perm (hc w1 L1 (some (29, l)) (fun q hq => by obtain rfl := Option.some.inj hq; exact hl)) [0, 1, 2, 8, 9] [3, 4, 5, 6, 7, 10, 11, 12] hp ⟨b0, b1, b2, c8, c9, trivial⟩ ⟨hsp, c4, c5, n6, n7, n10, n11, n12, trivial⟩ (by decide) rfl ?_
      rotate_left
      refine Run.perm (hc w1 L1 (some (29, l)) (fun q hq => by obtain rfl := Option.some.inj hq; exact hl)) [0, 1, 2, 8] [3, 4, 5, 6, 7, 9, 10, 11, 12] hp ⟨b0, b1, b2, c8, trivial⟩ ⟨hsp, c4, c5, n6, n7, c9, n10, n11, n12, trivial⟩ (by decide) rfl ?_
      rotate_left
      refine Run.perm (hc w1 L1 (some (29, l)) (fun q hq => by obtain rfl := Option.some.inj hq; exact hl)) [0, 1, 2] [3, 4, 5, 6, 7, 8, 9, 10, 11, 12] hp ⟨b0, b1, b2, trivial⟩ ⟨hsp, c4, c5, n6, n7, c8, c9, n10, n11, n12, trivial⟩ (by decide) rfl ?_
      rotate_left
      all_goals
        conv => whnf
        refine ⟨by kernel_rfl, ?_⟩
        refine Run.callK (nrow_spec inp tk s.d ht0 (by omega) (by omega) (by omega)) (ent _ _ Try.func54 (by kernel_rfl) rfl) rfl rfl rfl rfl rfl rfl rfl [.ptr 0 0, ii s.d] rfl id rfl (fun q hq => by show q < 45; omega) [0] rfl (fun q _ j _ hne => hne) rfl
          ⟨⟨by omega, nsimC_sc _ _⟩, trivial⟩ rfl ⟨⟨_, rfl, by rw [oren_id]; exact Conv.refl _⟩, trivial⟩ (fun q hq => hq) (.opq (4 + slotN (tk + s.d))) [(0, .cells (nsimC inp tk) 117)] ((31, .cells [ii s.fr, ii s.to, ii s.w, ii s.d] 126) :: (30, .pin pl) :: (29, _) :: (28, _) :: (24, .row 1 B.2.1.length (B.2.1.map fun x => ii x) 3) :: (25, .cells [.mp 2] 111) :: (26, .cells [.opq 24] 28) :: (27, .cells [.opq 21] 28) :: (22, .pin plp) :: (23, .cells [.ptr 0 0] 91) :: (1, .rwin 8 N.length (N.flatMap Prm.vals)) :: (2, swS S) :: (3, .row 2 N.length (B.1.flatMap Ste.cells) 119) :: (4, .row 1 N.length ((dY tk due1 (ylS S (srcK B.2.1 ins)) i 0).map fun x => ii x) 3) :: (5, .row 1 N.length ((dY tk due1 (ylS S (srcK B.2.1 ins)) i 1).map fun x => ii x) 3) :: (6, .row 1 N.length ((dY tk due1 (ylS S (srcK B.2.1 ins)) i 2).map fun x => ii x) 3) :: (7, .row 1 N.length ((dY tk due1 (ylS S (srcK B.2.1 ins)) i 3).map fun x => ii x) 3) :: (8, .row 1 N.length ((dY tk due1 (ylS S (srcK B.2.1 ins)) i 4).map fun x => ii x) 3) :: (9, .row 1 N.length ((dY tk due1 (ylS S (srcK B.2.1 ins)) i 5).map fun x => ii x) 3) :: (10, .row 1 N.length ((dY tk due1 (ylS S (srcK B.2.1 ins)) i 6).map fun x => ii x) 3) :: (11, .row 1 N.length ((dY tk due1 (ylS S (srcK B.2.1 ins)) i 7).map fun x => ii x) 3) :: (12, .row 1 N.length ((dY tk due1 (ylS S (srcK B.2.1 ins)) i 8).map fun x => ii x) 3) :: (13, .row 1 N.length ((dY tk due1 (ylS S (srcK B.2.1 ins)) i 9).map fun x => ii x) 3) :: (14, .row 1 N.length ((dY tk due1 (ylS S (srcK B.2.1 ins)) i 10).map fun x => ii x) 3) :: (15, .row 1 N.length ((dY tk due1 (ylS S (srcK B.2.1 ins)) i 11).map fun x => ii x) 3) :: (16, .row 1 N.length ((dY tk due1 (ylS S (srcK B.2.1 ins)) i 12).map fun x => ii x) 3) :: (17, .row 1 N.length ((dY tk due1 (ylS S (srcK B.2.1 ins)) i 13).map fun x => ii x) 3) :: (18, .row 1 N.length ((dY tk due1 (ylS S (srcK B.2.1 ins)) i 14).map fun x => ii x) 3) :: (19, .row 1 N.length ((dY tk due1 (ylS S (srcK B.2.1 ins)) i 15).map fun x => ii x) 3) :: (21, .rwin 1 ins.length (ints ins)) :: []) 45 (by show _ = SV.opq (shR id 21 45 (4 + slotN (tk + s.d))); rw [shR_lt (by rw [hk2]; omega)]; rfl) rfl ⟨⟨0, _, rfl, rfl, by rw [oren_fix (S := (· < 21)) (fun q hq => shR_lt hq) (o := .cells (nsimC inp tk) 117) (nsimC_sc _ _)], rfl⟩, trivial⟩ rfl rfl ?_
        rw [hk2]
        rw [← List.append_nil r]
      refine Run.perm (hc w1 L1 (some (29, l)) (fun q hq => by obtain rfl := Option.some.inj hq; exact hl)) [6, 7, 10, 11, 12] [0, 1, 2, 3, 4, 5, 8, 9] hr ⟨a6, a7, a10, a11, a12, trivial⟩ ⟨dis 0 (by decide) b0, dis 1 (by decide) b1, dis 2 (by decide) b2, hsr, dis 4 (by decide) c4, dis 5 (by decide) c5, dis 8 (by decide) c8, dis 9 (by decide) c9, trivial⟩ (by decide) rfl ?_
      rotate_left
      refine Run.perm (hc w1 L1 (some (29, l)) (fun q hq => by obtain rfl := Option.some.inj hq; exact hl)) [6, 7, 9, 10, 11, 12] [0, 1, 2, 3, 4, 5, 8] hr ⟨a6, a7, inr 9 (by decide) (by decide) c9, a10, a11, a12, trivial⟩ ⟨dis 0 (by decide) b0, dis 1 (by decide) b1, dis 2 (by decide) b2, hsr, dis 4 (by decide) c4, dis 5 (by decide) c5, dis 8 (by decide) c8, trivial⟩ (by decide) rfl ?_
      rotate_left
      refine Run.perm (hc w1 L1 (some (29, l)) (fun q hq => by obtain rfl := Option.some.inj hq; exact hl)) [6, 7, 8, 9, 10, 11, 12] [0, 1, 2, 3, 4, 5] hr ⟨a6, a7, inr 8 (by decide) (by decide) c8, inr 9 (by decide) (by decide) c9, a10, a11, a12, trivial⟩ ⟨dis 0 (by decide) b0, dis 1 (by decide) b1, dis 2 (by decide) b2, hsr, dis 4 (by decide) c4, dis 5 (by decide) c5, trivial⟩ (by decide) rfl ?_
      rotate_left
      refine Run.perm (hc w1 L1 (some (29, l)) (fun q hq => by obtain rfl := Option.some.inj hq; exact hl)) [5, 6, 7, 10, 11, 12] [0, 1, 2, 3, 4, 8, 9] hr ⟨inr 5 (by decide) (by decide) c5, a6, a7, a10, a11, a12, trivial⟩ ⟨dis 0 (by decide) b0, dis 1 (by decide) b1, dis 2 (by decide) b2, hsr, dis 4 (by decide) c4, dis 8 (by decide) c8, dis 9 (by decide) c9, trivial⟩ (by decide) rfl ?_
      rotate_left
      refine Run.perm (hc w1 L1 (some (29, l)) (fun q hq => by obtain rfl := Option.some.inj hq; exact hl)) [5, 6, 7, 9, 10, 11, 12] [0, 1, 2, 3, 4, 8] hr ⟨inr 5 (by decide) (by decide) c5, a6, a7, inr 9 (by decide) (by decide) c9, a10, a11, a12, trivial⟩ ⟨dis 0 (by decide) b0, dis 1 (by decide) b1, dis 2 (by decide) b2, hsr, dis 4 (by decide) c4, dis 8 (by decide) c8, trivial⟩ (by decide) rfl ?_
      rotate_left
      refine Run.perm (hc w1 L1 (some (29, l)) (fun q hq => by obtain rfl := Option.some.inj hq; exact hl)) [5, 6, 7, 8, 9, 10, 11, 12] [0, 1, 2, 3, 4] hr ⟨inr 5 (by decide) (by decide) c5, a6, a7, inr 8 (by decide) (by decide) c8, inr 9 (by decide) (by decide) c9, a10, a11, a12, trivial⟩ ⟨dis 0 (by decide) b0, dis 1 (by decide) b1, dis 2 (by decide) b2, hsr, dis 4 (by decide) c4, trivial⟩ (by decide) rfl ?_
      rotate_left
      refine Run.perm (hc w1 L1 (some (29, l)) (fun q hq => by obtain rfl := Option.some.inj hq; exact hl)) [4, 5, 6, 7, 10, 11, 12] [0, 1, 2, 3, 8, 9] hr ⟨inr 4 (by decide) (by decide) c4, inr 5 (by decide) (by decide) c5, a6, a7, a10, a11, a12, trivial⟩ ⟨dis 0 (by decide) b0, dis 1 (by decide) b1, dis 2 (by decide) b2, hsr, dis 8 (by decide) c8, dis 9 (by decide) c9, trivial⟩ (by decide) rfl ?_
      rotate_left
      refine Run.perm (hc w1 L1 (some (29, l)) (fun q hq => by obtain rfl := Option.some.inj hq; exact hl)) [4, 5, 6, 7, 9, 10, 11, 12] [0, 1, 2, 3, 8] hr ⟨inr 4 (by decide) (by decide) c4, inr 5 (by decide) (by decide) c5, a6, a7, inr 9 (by decide) (by decide) c9, a10, a11, a12, trivial⟩ ⟨dis 0 (by decide) b0, dis 1 (by decide) b1, dis 2 (by decide) b2, hsr, dis 8 (by decide) c8, trivial⟩ (by decide) rfl ?_
      rotate_left
      refine Run.perm (hc w1 L1 (some (29, l)) (fun q hq => by obtain rfl := Option.some.inj hq; exact hl)) [4, 5, 6, 7, 8, 9, 10, 11, 12] [0, 1, 2, 3] hr ⟨inr 4 (by decide) (by decide) c4, inr 5 (by decide) (by decide) c5, a6, a7, inr 8 (by decide) (by decide) c8, inr 9 (by decide) (by decide) c9, a10, a11, a12, trivial⟩ ⟨dis 0 (by decide) b0, dis 1 (by decide) b1, dis 2 (by decide) b2, hsr, trivial⟩ (by decide) rfl ?_
      rotate_left
      all_goals
        conv => whnf
        rw [opF_indexR (t := 28) (xs := ((dY tk due1 (ylS S (srcK B.2.1 ins)) i) k2).map fun x => ii x) rfl rfl rfl rfl (by rcases lt16 hk2l with rfl | rfl | rfl | rfl | rfl | rfl | rfl | rfl | rfl | rfl | rfl | rfl | rfl | rfl | rfl | rfl <;> rfl) rfl]
        conv => whnf
        refine ⟨⟨by omega, by omega⟩, ?_⟩
        conv => whnf
        rw [opF_loadR1 (l := ((dY tk due1 (ylS S (srcK B.2.1 ins)) i) k2).map fun x => ii x) (c := ii ((dY tk due1 (ylS S (srcK B.2.1 ins)) i) k2)[s.to.toNat]) s.to.toNat rfl rfl (by rcases lt16 hk2l with rfl | rfl | rfl | rfl | rfl | rfl | rfl | rfl | rfl | rfl | rfl | rfl | rfl | rfl | rfl | rfl <;> rfl) rfl (by rw [idx_eq, Nat.mul_one]) (by rw [List.getElem?_map, List.getElem?_eq_getElem htl]; rfl)]
        conv => whnf
        rw [opF_indexR (t := 28) (xs := ((dY tk due1 (ylS S (srcK B.2.1 ins)) i) k2).map fun x => ii x) rfl rfl rfl rfl (by rcases lt16 hk2l with rfl | rfl | rfl | rfl | rfl | rfl | rfl | rfl | rfl | rfl | rfl | rfl | rfl | rfl | rfl | rfl <;> rfl) rfl]
        conv => whnf
        refine ⟨⟨by omega, by omega⟩, ?_⟩
        conv => whnf
        rw [opF_storeR1 (l := ((dY tk due1 (ylS S (srcK B.2.1 ins)) i) k2).map fun x => ii x) (v := ii (W (((dY tk due1 (ylS S (srcK B.2.1 ins)) i) k2)[s.to.toNat] + s.w))) s.to.toNat rfl rfl rfl (by rcases lt16 hk2l with rfl | rfl | rfl | rfl | rfl | rfl | rfl | rfl | rfl | rfl | rfl | rfl | rfl | rfl | rfl | rfl <;> rfl) rfl (by rw [idx_eq, Nat.mul_one]) (by rw [List.length_map]; exact htl) rfl rfl, hset]
        conv => whnf
        refine ⟨by kernel_rfl, ?_⟩
        rw [hdn]
        rcases lt16 hk2l with rfl | rfl | rfl | rfl | rfl | rfl | rfl | rfl | rfl | rfl | rfl | rfl | rfl | rfl | rfl | rfl
        all_goals
          refine Run.of_wpK (hc w1 L1 (some (29, l)) (fun q hq => by obtain rfl := Option.some.inj hq; exact hl)) 1000 _ ?_
          conv => whnf
          refine ⟨fun ρ w' hW _ => ⟨rfl, ρ, ?_⟩⟩
          refine hW.less (r := id) ⟨?_, fun _ _ _ _ h => h, fun q hq => ⟨rfl, hlid q hq⟩⟩
          exact AllP.mem ⟨⟨by rw [oren_id]; rfl, by omega, fun p hp => Nat.lt_of_lt_of_le (hcov1.1 p hp) (by decide)⟩, ⟨rfl, by omega, trivial⟩, ⟨rfl, by omega, trivial⟩, ⟨by rw [oren_id]; rfl, by omega, scs_i _ _⟩, ⟨by rw [oren_id]; rfl, by omega, ⟨(show 2 < 31 by decide), trivial⟩⟩, ⟨by rw [oren_id]; rfl, by omega, ⟨(show 24 < 31 by decide), trivial⟩⟩, ⟨by rw [oren_id]; rfl, by omega, ⟨(show 21 < 31 by decide), trivial⟩⟩, ⟨by rw [oren_id]; rfl, by omega, fun p hp => Nat.lt_of_lt_of_le (hcov.1 p hp) (show 22 ≤ 31 by decide)⟩, ⟨by rw [oren_id]; rfl, by omega, ⟨(show 0 < 31 by decide), trivial⟩⟩, ⟨by rw [oren_id]; rfl, by omega, SV.scs_lt (by decide) (nsimC_sc _ _)⟩, ⟨rfl, by omega, trivial⟩, ⟨rfl, by omega, trivial⟩, ⟨by rw [oren_id]; rfl, by omega, scs_st _ _⟩, ⟨by rw [oren_id]; rfl, by omega, scs_i _ _⟩, ⟨by rw [oren_id]; rfl, by omega, scs_i _ _⟩, ⟨by rw [oren_id]; rfl, by omega, scs_i _ _⟩, ⟨by rw [oren_id]; rfl, by omega, scs_i _ _⟩, ⟨by rw [oren_id]; rfl, by omega, scs_i _ _⟩, ⟨by rw [oren_id]; rfl, by omega, scs_i _ _⟩, ⟨by rw [oren_id]; rfl, by omega, scs_i _ _⟩, ⟨by rw [oren_id]; rfl, by omega, scs_i _ _⟩, ⟨by rw [oren_id]; rfl, by omega, scs_i _ _⟩, ⟨by rw [oren_id]; rfl, by omega, scs_i _ _⟩, ⟨by rw [oren_id]; rfl, by omega, scs_i _ _⟩, ⟨by rw [oren_id]; rfl, by omega, scs_i _ _⟩, ⟨by rw [oren_id]; rfl, by omega, scs_i _ _⟩, ⟨by rw [oren_id]; rfl, by omega, scs_i _ _⟩, ⟨by rw [oren_id]; rfl, by omega, scs_i _ _⟩, ⟨by rw [oren_id]; rfl, by omega, scs_i _ _⟩, ⟨rfl, by omega, trivial⟩, trivial⟩
    · intro L' a d hwid hd hLp
      have hnB2 : nB tk N st due = B := by rw [hnB, hA]; exact hB
      have hnD : nDue tk N S st due ins = dY tk due1 (ylS S (srcK B.2.1 ins)) (ylV S (srcK B.2.1 ins)).length := by
        unfold nDue dY
        rw [hnB2, hk, hd1, List.take_of_length_le (by simp [ylV])]
      refine Run.of_wpK (hc w L' none (fun q hq => by cases hq)) 1000 _ ?_
      conv => whnf
      refine Run.retD (hc w L' none (fun q hq => by cases hq)) rfl 28 d hd rfl (.inr ⟨_, rfl⟩) rfl ?_
      rw [← hRR, hnB2, hnD]
      refine SpecR.introN 24 (by decide) hwid hLB (by decide) hcov rfl rfl (show 22 < 23 by decide) ?_
      exact ⟨⟨by rw [oren_fix (S := fun _ => False) (fun i hi => hi.elim) (o := .row 1 B.2.1.length (B.2.1.map fun x => ii x) 3) (scs_i _ _)]; rfl, by omega, scs_i _ _⟩, ⟨by rw [oren_fix (S := (· < 21)) (fun i hi => sh_fix i (by omega)) (o := .cells (nsimC inp (W (tk + 1))) 117) (nsimC_sc _ _)]; rfl, by omega, SV.scs_lt (by decide) (nsimC_sc _ _)⟩, ⟨rfl, by omega, trivial⟩, ⟨rfl, by omega, trivial⟩, ⟨by rw [oren_fix (S := fun _ => False) (fun i hi => hi.elim) (o := .row 2 N.length (B.1.flatMap Ste.cells) 119) (scs_st _ _)]; rfl, by omega, scs_st _ _⟩, ⟨by rw [oren_fix (S := fun _ => False) (fun i hi => hi.elim) (o := .row 1 N.length ((dY tk due1 (ylS S (srcK B.2.1 ins)) (ylV S (srcK B.2.1 ins)).length 0).map fun x => ii x) 3) (scs_i _ _)]; rfl, by omega, scs_i _ _⟩, ⟨by rw [oren_fix (S := fun _ => False) (fun i hi => hi.elim) (o := .row 1 N.length ((dY tk due1 (ylS S (srcK B.2.1 ins)) (ylV S (srcK B.2.1 ins)).length 1).map fun x => ii x) 3) (scs_i _ _)]; rfl, by omega, scs_i _ _⟩, ⟨by rw [oren_fix (S := fun _ => False) (fun i hi => hi.elim) (o := .row 1 N.length ((dY tk due1 (ylS S (srcK B.2.1 ins)) (ylV S (srcK B.2.1 ins)).length 2).map fun x => ii x) 3) (scs_i _ _)]; rfl, by omega, scs_i _ _⟩, ⟨by rw [oren_fix (S := fun _ => False) (fun i hi => hi.elim) (o := .row 1 N.length ((dY tk due1 (ylS S (srcK B.2.1 ins)) (ylV S (srcK B.2.1 ins)).length 3).map fun x => ii x) 3) (scs_i _ _)]; rfl, by omega, scs_i _ _⟩, ⟨by rw [oren_fix (S := fun _ => False) (fun i hi => hi.elim) (o := .row 1 N.length ((dY tk due1 (ylS S (srcK B.2.1 ins)) (ylV S (srcK B.2.1 ins)).length 4).map fun x => ii x) 3) (scs_i _ _)]; rfl, by omega, scs_i _ _⟩, ⟨by rw [oren_fix (S := fun _ => False) (fun i hi => hi.elim) (o := .row 1 N.length ((dY tk due1 (ylS S (srcK B.2.1 ins)) (ylV S (srcK B.2.1 ins)).length 5).map fun x => ii x) 3) (scs_i _ _)]; rfl, by omega, scs_i _ _⟩, ⟨by rw [oren_fix (S := fun _ => False) (fun i hi => hi.elim) (o := .row 1 N.length ((dY tk due1 (ylS S (srcK B.2.1 ins)) (ylV S (srcK B.2.1 ins)).length 6).map fun x => ii x) 3) (scs_i _ _)]; rfl, by omega, scs_i _ _⟩, ⟨by rw [oren_fix (S := fun _ => False) (fun i hi => hi.elim) (o := .row 1 N.length ((dY tk due1 (ylS S (srcK B.2.1 ins)) (ylV S (srcK B.2.1 ins)).length 7).map fun x => ii x) 3) (scs_i _ _)]; rfl, by omega, scs_i _ _⟩, ⟨by rw [oren_fix (S := fun _ => False) (fun i hi => hi.elim) (o := .row 1 N.length ((dY tk due1 (ylS S (srcK B.2.1 ins)) (ylV S (srcK B.2.1 ins)).length 8).map fun x => ii x) 3) (scs_i _ _)]; rfl, by omega, scs_i _ _⟩, ⟨by rw [oren_fix (S := fun _ => False) (fun i hi => hi.elim) (o := .row 1 N.length ((dY tk due1 (ylS S (srcK B.2.1 ins)) (ylV S (srcK B.2.1 ins)).length 9).map fun x => ii x) 3) (scs_i _ _)]; rfl, by omega, scs_i _ _⟩, ⟨by rw [oren_fix (S := fun _ => False) (fun i hi => hi.elim) (o := .row 1 N.length ((dY tk due1 (ylS S (srcK B.2.1 ins)) (ylV S (srcK B.2.1 ins)).length 10).map fun x => ii x) 3) (scs_i _ _)]; rfl, by omega, scs_i _ _⟩, ⟨by rw [oren_fix (S := fun _ => False) (fun i hi => hi.elim) (o := .row 1 N.length ((dY tk due1 (ylS S (srcK B.2.1 ins)) (ylV S (srcK B.2.1 ins)).length 11).map fun x => ii x) 3) (scs_i _ _)]; rfl, by omega, scs_i _ _⟩, ⟨by rw [oren_fix (S := fun _ => False) (fun i hi => hi.elim) (o := .row 1 N.length ((dY tk due1 (ylS S (srcK B.2.1 ins)) (ylV S (srcK B.2.1 ins)).length 12).map fun x => ii x) 3) (scs_i _ _)]; rfl, by omega, scs_i _ _⟩, ⟨by rw [oren_fix (S := fun _ => False) (fun i hi => hi.elim) (o := .row 1 N.length ((dY tk due1 (ylS S (srcK B.2.1 ins)) (ylV S (srcK B.2.1 ins)).length 13).map fun x => ii x) 3) (scs_i _ _)]; rfl, by omega, scs_i _ _⟩, ⟨by rw [oren_fix (S := fun _ => False) (fun i hi => hi.elim) (o := .row 1 N.length ((dY tk due1 (ylS S (srcK B.2.1 ins)) (ylV S (srcK B.2.1 ins)).length 14).map fun x => ii x) 3) (scs_i _ _)]; rfl, by omega, scs_i _ _⟩, ⟨by rw [oren_fix (S := fun _ => False) (fun i hi => hi.elim) (o := .row 1 N.length ((dY tk due1 (ylS S (srcK B.2.1 ins)) (ylV S (srcK B.2.1 ins)).length 15).map fun x => ii x) 3) (scs_i _ _)]; rfl, by omega, scs_i _ _⟩, trivial⟩
end Go.Proofs.Ythaigkamfnjfbaa
namespace Go.Sx
/-- A map of slices that a callee has made, told beside what the caller knows; the world is told anew. -/
theorem WI.addSwin {w0 w w1 : World} {ρ : Env} {M : List (Nat × SObj)} {n e b : Nat} {cn : Int → Nat} {f : Int → List Value} (hW : WI w0 [] ρ (look M) (· < n) w) (hE : Ext w w1) (hs : SwinAt w1 (fun x => w.heap.size ≤ x ∧ x < w1.heap.size) b e cn f) (is : List Nat) (M' : List (Nat × SObj))
    (hM' : ∀ x ∈ M', look M' x.1 = some x.2 ∧ look M x.1 = some x.2 ∧ (x.2.wnd = true ∨ x.1 ∈ is) ∧ (x.2.wnd = true → x.1 ∉ is)) :
    ∃ L', (∀ p ∈ L', p.1 ∈ is ∧ p.1 < n ∧ w0.heap.size ≤ p.2) ∧ WI w1 L' (ρ.bind n b) (look ((n, .swin e cn f) :: M')) (· < n + 1) w1 ∧ Env.agree (· < n) ρ (ρ.bind n b) := by
  have hsub : ∀ i o, look M' i = some o → look M i = some o := fun i o hi => (hM' _ (look_mem hi)).2.1
  have hr : WI w0 [] ρ (look M') (· < n) w := ⟨fun i o hi => hW.mem i o (hsub i o hi), fun i j oi oj hi hj => hW.dist i j oi oj (hsub i oi hi) (hsub j oj hj), fun i o hi => hW.new i o (hsub i o hi), hW.lid, hW.keep, hW.size, hW.os, hW.tape, hW.output⟩
  obtain ⟨L', hL1, _, hWs⟩ := (hr.ext hE).enterN is (fun x hx => ⟨(hM' x hx).1, (hM' x hx).2.2⟩)
  have hlt : ∀ p ∈ L', p.1 < n ∧ p.2 < w.heap.size ∧ w0.heap.size ≤ p.2 := fun p hp => by
    obtain ⟨_, h2, o, h3, h4⟩ := hL1 p hp
    rw [h2]
    refine ⟨(hr.mem _ _ h3).1, SObj.holds_lt (hr.mem _ _ h3).2.2 h4, ?_⟩
    rcases hr.new _ _ h3 h4 with ⟨q, hq, _⟩ | h
    · cases hq
    · exact h
  have hag := Env.bind_agree ρ b (S := (· < n)) (i := n) (Nat.lt_irrefl n)
  refine ⟨L', fun p hp => ⟨(hL1 p hp).1, (hlt p hp).1, (hlt p hp).2.2⟩, ?_, hag⟩
  have h := hWs.addR hag (i := n) (o := .swin e cn f) trivial (fun _ _ h => h) ⟨by simp [Env.bind], by
    have e1 : (ρ.bind n b).s n = b := by simp [Env.bind]
    rw [e1]
    exact hs.mono fun x hx => ⟨⟨hx.2, fun p hp => by have := (hlt p hp).2.1; omega⟩, rfl⟩⟩
  rw [look_upd]
  exact h.mono fun q hq => by have hq : q < n ∨ q = n := hq; show q < n + 1; omega
/-- A call that makes a map of slices; the world is told anew. -/
theorem Run.callS {c : Cx} {T : List (Nat × SV)} {M : List (Nat × SObj)} {n : Nat} {D : List Deferred} {ops : Array Oper} {i : Nat} {r : List Nat} {k : List Item} {R : Ending → World → Prop} {o : Oper} {f : Operand} {args : Array Operand} {ts : Array TypeId}
    {fv : SV} {g : FuncId} {vs : List SV} {e : Nat} {cn : Int → Nat} {ff : Int → List Value} (hL : c.L = []) (hcall : ∀ ρ w, WI c.w0 [] ρ (look M) (· < n) w → Calls c.P g (SV.concs ρ vs).toArray w fun en w' => ∃ b, en = .returned (.map (some b)) ∧ Ext w w' ∧ SwinAt w' (fun x => w.heap.size ≤ x ∧ x < w'.heap.size) b e cn ff) (hg : Enters c.P g)
    (ho : get ops.toList i = some o) (hop : o.op = .call { callee := .value f, args := args, argTypes := ts }) (hw : wantS ops.toList (look T) o = some true) (hd : okD c.fn.ntmps o.dst = true)
    (hf : ev (look T) f = some fv) (hfv : calleeOf fv = some (g, [])) (hvs : evs (look T) args.toList = some vs) (is : List Nat) (M' : List (Nat × SObj)) (hM' : ∀ x ∈ M', look M' x.1 = some x.2 ∧ look M x.1 = some x.2 ∧ (x.2.wnd = true ∨ x.1 ∈ is) ∧ (x.2.wnd = true → x.1 ∉ is))
    (T' : List (Nat × SV)) (hT' : ∀ x ∈ T', look T x.1 = some x.2 ∧ x.2.sc (· < n))
    (h : ∀ w1 L1, Ext c.w0 w1 → (∀ p ∈ L1, p.1 ∈ is ∧ p.1 < n ∧ c.w0.heap.size ≤ p.2) → Run { c with w0 := w1, L := L1 } ⟨putS T' o.dst (.mp n), (n, .swin e cn ff) :: M', n + 1, D, .inRegion ops r :: k⟩ R) : Run c ⟨T, M, n, D, .inRegion ops (i :: r) :: k⟩ R := by
  refine Run.callW (vs := vs) (caps := []) (fun _ w en w' => ∃ b, en = .returned (.map (some b)) ∧ Ext w w' ∧ SwinAt w' (fun x => w.heap.size ≤ x ∧ x < w'.heap.size) b e cn ff) (fun ρ w hW => by rw [hL] at hW; rw [List.append_nil]; exact hcall ρ w hW) hg ho hop hw hd hf hfv hvs (fun ρ w en w' hW ⟨b, he, hE, hs⟩ => ?_)
  rw [hL] at hW
  obtain ⟨L1, hL1, hW1, hag⟩ := hW.addSwin hE hs is M' hM'
  refine ⟨.mp n, T', ρ.bind n b, _, n + 1, L1, ?_, Nat.lt_succ_self n, fun x hx => ⟨x.2, (hT' x hx).1, (conc_agree hag _ (hT' x hx).2).symm, SV.sc_mono (fun q (hq : q < n) => Nat.lt_succ_of_lt hq) _ (hT' x hx).2⟩, hW1, h w' L1 (hW.toExt.trans hE) hL1⟩
  rw [he]; simp [SV.conc, Env.bind]
/-- What a callee has told of its own world, joined to what the caller knows of before. -/
theorem WI.joinW {w0 w w1 : World} {L L1 : List (Nat × Nat)} {ρ ρ1 : Env} {M M1 : List (Nat × SObj)} {n n1 : Nat} (hW : WI w0 L ρ (look M) (· < n) w) (hE : Ext w w1) (hC : WI w1 L1 ρ1 (look M1) (· < n1) w1) (hL1 : ∀ p ∈ L1, w.heap.size ≤ p.2) (M2 : List (Nat × SObj))
    (hM2 : ∀ x ∈ M2, (look M x.1 = some x.2 ∧ ∀ ρ, ¬ x.2.occ ρ x.1) ∨ ∃ i o, n + i = x.1 ∧ look M1 i = some o ∧ x.2 = o.ren (n + ·)) :
    WI w1 (L1.map fun p => (n + p.1, p.2)) (ρ.join 0 n ρ1) (look M2) (· < n + n1) w1 ∧ Env.agree (· < n) ρ (ρ.join 0 n ρ1) := by
  have hj := ρ.join_agree 0 n ρ1
  have hr : (ρ.join 0 n ρ1).ren (n + ·) = ρ1 := by
    cases ρ1 with
    | mk s o h =>
      simp only [Env.ren, Env.join]
      congr 1 <;> (funext i; rw [if_neg (by omega)]; congr 1; omega)
  have hs : ∀ i, (ρ.join 0 n ρ1).s (n + i) = ρ1.s i := fun i => congrFun (congrArg Env.s hr) i
  have hws := hW.size
  have hes := hE.size
  have kept : ∀ i o, look M i = some o → (∀ ρ, ¬ o.occ ρ i) → i < n + n1 ∧ o.sc (· < n + n1) ∧ o.holds w1 (L1.map fun p => (n + p.1, p.2)) (ρ.join 0 n ρ1) i w1 := by
    intro i o hi hno
    obtain ⟨g1, g2, g3⟩ := hW.mem i o hi
    have g1' : i < n := g1
    refine ⟨by omega, SObj.sc_mono (fun j (hj : j < n) => by show j < n + n1; omega) g2, ?_⟩
    have h' := SObj.holds_agree (w' := w1) hj g1 g2 (fun ho => absurd ho (hno ρ)) g3
    have hb : ∀ b, b < w0.heap.size → (∀ p ∈ L, p.2 ≠ b) → b < w1.heap.size ∧ (∀ p ∈ L1.map (fun p => (n + p.1, p.2)), p.2 ≠ b) ∧ w1.heap[b]? = w0.heap[b]? := fun b h1 h2 =>
      ⟨by omega, fun p hp he => by
        obtain ⟨q, hq, rfl⟩ := List.mem_map.1 hp
        have := hL1 q hq
        simp only at he
        omega, (hE.keep b (by omega)).trans (hW.keep b h1 h2)⟩
    cases o with
    | cells cs t => exact absurd trivial (hno ρ)
    | obj o => exact absurd trivial (hno ρ)
    | mid pre post cs t => exact absurd trivial (hno ρ)
    | row e m xs t => exact absurd (by simp [SObj.occ]) (hno ⟨fun _ => 0, fun _ => 0, fun _ => (some ⟨0, 0, none⟩, 0, 0)⟩)
    | kmap pk nn l => exact absurd rfl (hno ⟨fun _ => 0, fun _ => 0, fun _ => (none, 0, 0)⟩)
    | pin l => exact h'
    | win vs =>
      obtain ⟨k1, k2, k3⟩ := h'
      obtain ⟨b1, b2, b3⟩ := hb _ k1 k2
      exact ⟨b1, b2, fun j x hj => by rw [World.cell?_of_block b3]; exact k3 j x hj⟩
    | rwin e m vs =>
      obtain ⟨k0, k00, k01, kk⟩ := h'
      refine ⟨k0, k00, k01, kk.imp id fun ⟨k, k1, k2, k3⟩ => ?_⟩
      obtain ⟨b1, b2, b3⟩ := hb _ k1 k2
      exact ⟨k, b1, b2, fun j x hj => by rw [World.cell?_of_block b3]; exact k3 j x hj⟩
    | kwin pk l =>
      obtain ⟨k0, kk⟩ := h'
      refine ⟨k0, kk.imp (fun ⟨k, k1, k2, k3⟩ => ?_) id⟩
      obtain ⟨b1, b2, b3⟩ := hb _ k1 k2
      exact ⟨k, b1, b2, b3.trans k3⟩
    | swin e m f =>
      exact ⟨h'.1, h'.2.mono fun b hbb => by
        obtain ⟨b1, b2, b3⟩ := hb _ hbb.1 hbb.2
        exact ⟨⟨b1, b2⟩, b3⟩⟩
  have lift : ∀ i (o : SObj), o.holds w1 L1 ρ1 i w1 → o.holds w1 (L1.map fun p => (n + p.1, p.2)) ρ1 i w1 := by
    intro i o h
    have hp : ∀ b, (∀ p ∈ L1, p.2 ≠ b) → ∀ p ∈ L1.map (fun p => (n + p.1, p.2)), p.2 ≠ b := fun b hb p hp => by
      obtain ⟨q, hq, rfl⟩ := List.mem_map.1 hp
      exact hb q hq
    cases o with
    | win vs => exact ⟨h.1, hp _ h.2.1, h.2.2⟩
    | rwin e m vs => exact ⟨h.1, h.2.1, h.2.2.1, h.2.2.2.imp id fun ⟨k, k1, k2, k3⟩ => ⟨k, k1, hp _ k2, k3⟩⟩
    | kwin pk l => exact ⟨h.1, h.2.imp (fun ⟨k, k1, k2, k3⟩ => ⟨k, k1, hp _ k2, k3⟩) id⟩
    | swin e m f => exact ⟨h.1, h.2.mono fun b hb => ⟨⟨hb.1, hp b hb.2⟩, rfl⟩⟩
    | _ => exact h
  have theirs : ∀ i o, look M1 i = some o → n + i < n + n1 ∧ (o.ren (n + ·)).sc (· < n + n1) ∧ (o.ren (n + ·)).holds w1 (L1.map fun p => (n + p.1, p.2)) (ρ.join 0 n ρ1) (n + i) w1 := by
    intro i o hi
    obtain ⟨g1, g2, g3⟩ := hC.mem i o hi
    have g1' : i < n1 := g1
    refine ⟨by omega, SObj.sc_ren (fun j (hj : j < n1) => by show n + j < n + n1; omega) g2, ?_⟩
    rw [holds_ren (r := (n + ·)), hr]
    exact lift i o g3
  have theirB : ∀ (i : Nat) (o : SObj), (o.ren (n + ·)).occ (ρ.join 0 n ρ1) (n + i) → o.occ ρ1 i := fun i o ho => by
    have := (occ_ren (ρ := ρ.join 0 n ρ1) (r := (n + ·)) (i := i) (o := o)).1 ho
    rwa [hr] at this
  refine ⟨⟨fun i o hi => ?_, fun i j oi oj hi hj' hne ho ho' => ?_, fun i o hi ho => ?_, fun p hp => ?_, fun _ _ _ => rfl, Nat.le_refl _, rfl, rfl, rfl⟩, hj⟩
  · rcases hM2 _ (look_mem hi) with ⟨h1, h2⟩ | ⟨i', o', h1, h2, h3⟩
    · exact kept i o h1 h2
    · simp only at h1 h3
      subst h1 h3
      exact theirs i' o' h2
  · rcases hM2 _ (look_mem hi) with ⟨_, a2⟩ | ⟨i', oi', a1, a2, a3⟩
    · exact absurd ho (a2 _)
    · rcases hM2 _ (look_mem hj') with ⟨_, b2⟩ | ⟨j', oj', b1, b2, b3⟩
      · exact absurd ho' (b2 _)
      · simp only at a1 a3 b1 b3
        subst a1 a3 b1 b3
        rw [hs, hs]
        exact hC.dist i' j' oi' oj' a2 b2 (fun e => hne (by rw [e])) (theirB i' oi' ho) (theirB j' oj' ho')
  · rcases hM2 _ (look_mem hi) with ⟨_, a2⟩ | ⟨i', oi', a1, a2, a3⟩
    · exact absurd ho (a2 _)
    · simp only at a1 a3
      subst a1 a3
      rw [hs]
      rcases hC.new i' oi' a2 (theirB i' oi' ho) with ⟨p, hp, hpe⟩ | h
      · exact .inl ⟨(n + p.1, p.2), List.mem_map.2 ⟨p, hp, rfl⟩, hpe⟩
      · exact .inr h
  · obtain ⟨q, hq, rfl⟩ := List.mem_map.1 hp
    obtain ⟨h1, h2⟩ := hC.lid q hq
    have h1' : q.1 < n1 := h1
    exact ⟨by show n + q.1 < n + n1; omega, by rw [hs]; exact h2⟩
/-- The world told again by one of before. -/
theorem WI.back {w0 w1 w' : World} {L1 : List (Nat × Nat)} {ρ : Env} {M : List (Nat × SObj)} {n : Nat} (hW : WI w1 L1 ρ (look M) (· < n) w') (hE : Ext w0 w1) (hL1 : ∀ p ∈ L1, w0.heap.size ≤ p.2) (M1 : List (Nat × SObj)) (hM1 : ∀ x ∈ M1, look M x.1 = some x.2 ∧ x.2.wnd = false) : WI w0 [] ρ (look M1) (· < n) w' := by
  have hs := hE.size
  refine ⟨fun i o hi => ?_, fun i j oi oj hi hj => hW.dist i j oi oj (hM1 _ (look_mem hi)).1 (hM1 _ (look_mem hj)).1, fun i o hi ho => ?_, fun p hp => (by cases hp), fun k hk _ => ?_, Nat.le_trans hs hW.size, hW.os.trans hE.os, hW.tape.trans hE.tape, hW.output.trans hE.output⟩
  · obtain ⟨h1, h2⟩ := hM1 _ (look_mem hi)
    obtain ⟨g1, g2, g3⟩ := hW.mem i o h1
    refine ⟨g1, g2, ?_⟩
    cases o <;> first
      | exact g3
      | cases h2
  · right
    rcases hW.new i o (hM1 _ (look_mem hi)).1 ho with ⟨p, hp, he⟩ | h
    · rw [← he]; exact hL1 p hp
    · omega
  · rw [hW.keep k (by omega) (fun p hp he => by have := hL1 p hp; omega)]
    exact hE.keep k hk
theorem WI.backExt {w0 w1 w' : World} {L1 : List (Nat × Nat)} {ρ : Env} {M : Mem} {S : Nat → Prop} (hW : WI w1 L1 ρ M S w') (hE : Ext w0 w1) (hL1 : ∀ p ∈ L1, w0.heap.size ≤ p.2) : Ext w0 w' :=
  ⟨fun k hk => by rw [hW.keep k (Nat.lt_of_lt_of_le hk hE.size) (fun p hp he => by have := hL1 p hp; omega)]; exact hE.keep k hk, Nat.le_trans hE.size hW.size, hW.os.trans hE.os, hW.tape.trans hE.tape, hW.output.trans hE.output⟩
end Go.Sx
