/-
  Walks of the functions of the reference of package neuron (part B): 'Go', 'Tick', 'Leak': what they compute, and that it is what the package's own compute.
  For every argument; the world only gets new blocks.
-/
import Derived.Test.YtoipnojibkjjnaaRefA
namespace Go.Proofs.Ytoipnojibkjjnaa
open Go.Sx
set_option maxRecDepth 100000

def rstepV (p : Prm) (s : Ste) (x : Int) : Int := max p.floor (min 1048576 (W (W (rleak p.lk p.leak s.v + max (-4194304) (min 4194304 x)) + p.bias)))
def rstepS (p : Prm) (s : Ste) (x : Int) : Ste :=
  if 0 < s.rest then ⟨s.v, W (s.rest - 1)⟩
  else if rstepV p s x < p.thr then ⟨rstepV p s x, 0⟩
  else if p.rk = 0 then ⟨p.reset, p.rest⟩ else ⟨W (rstepV p s x - p.thr), p.rest⟩
def rstepB (p : Prm) (s : Ste) (x : Int) : Bool := if 0 < s.rest then false else if rstepV p s x < p.thr then false else true
def Ste.val (s : Ste) : Value := .agg #[.int .i64 s.v, .int .i64 s.rest]

abbrev rpf3 : PF := (47, FPI fun p v => .int .i64 (rleak p.lk p.leak v)) :: (26, FPS fun p s => .int .i64 (vld p s)) :: rpf2
theorem rpf3_ok : PF.oks Try.prog rpf3 := ⟨rleak_pure, rvalid_pure, rpf2_ok⟩

theorem go_run (p : Prm) (s : Ste) (x : Int) (w : World) : Calls Try.prog 41 #[p.sv.conc env0, s.sv.conc env0, .int .i64 x] w fun e w' => e = .returned (.tuple #[(rstepS p s x).val, .bool (rstepB p s x)]) ∧ Ext w w' := by
  obtain ⟨lk, leak, bias, thr, rk, reset, floor, rest⟩ := p
  obtain ⟨sv, sr⟩ := s
  have fin : ∀ {c : Cx} {M : List (Nat × SObj)} {n : Nat} {v r : Int} {bb : Bool}, c.w0 = w → c.L = [] →
      rstepS ⟨lk, leak, bias, thr, rk, reset, floor, rest⟩ ⟨sv, sr⟩ x = ⟨v, r⟩ → rstepB ⟨lk, leak, bias, thr, rk, reset, floor, rest⟩ ⟨sv, sr⟩ x = bb →
      RetOk c M n (.tup [.agg [ii v, ii r], .v (.bool bb)]) (fun e w' => e = .returned (.tuple #[(rstepS ⟨lk, leak, bias, thr, rk, reset, floor, rest⟩ ⟨sv, sr⟩ x).val, .bool (rstepB ⟨lk, leak, bias, thr, rk, reset, floor, rest⟩ ⟨sv, sr⟩ x)]) ∧ Ext w w') := by
    intro c M n v r bb hw hL h1 h2
    refine ⟨fun ρ w' hW _ => ?_⟩
    rw [hw, hL] at hW
    exact ⟨by rw [h1, h2]; rfl, hW.toExt⟩
  refine Run.start0 (tab := tab) (pf := rpf3) (cuts := cuts41) mixed tab_ok rpf3_ok Try.func41 rfl [.agg [ii lk, ii leak, ii bias, ii thr, ii rk, ii reset, ii floor, ii rest], .agg [ii sv, ii sr], ii x] 2000 (by simp [SV.scs, SV.sc]) rfl ?_
  conv => whnf
  cases h0 : decide (0 < sr)
  · have h0 : ¬ 0 < sr := of_decide_eq_false h0
    conv => whnf
    refine ⟨by kernel_rfl, ?_⟩
    conv => whnf
    split
    · rename_i h1
      have h1 : rstepV ⟨lk, leak, bias, thr, rk, reset, floor, rest⟩ ⟨sv, sr⟩ x < thr := of_decide_eq_true h1
      conv => whnf
      exact fin rfl rfl (by simp only [rstepS]; rw [if_neg h0, if_pos h1]; rfl) (by simp only [rstepB]; rw [if_neg h0, if_pos h1])
    · rename_i h1
      have h1 : ¬ rstepV ⟨lk, leak, bias, thr, rk, reset, floor, rest⟩ ⟨sv, sr⟩ x < thr := of_decide_eq_false h1
      conv => whnf
      cases h2 : rk == 0
      · have h2 : ¬ rk = 0 := by simpa using h2
        conv => whnf
        exact fin rfl rfl (by simp only [rstepS]; rw [if_neg h0, if_neg h1, if_neg h2]; rfl) (by simp only [rstepB]; rw [if_neg h0, if_neg h1])
      · have h2 : rk = 0 := by simpa using h2
        conv => whnf
        exact fin rfl rfl (by simp only [rstepS]; rw [if_neg h0, if_neg h1, if_pos h2]) (by simp only [rstepB]; rw [if_neg h0, if_neg h1])
  · have h0 : 0 < sr := of_decide_eq_true h0
    conv => whnf
    exact fin rfl rfl (by simp only [rstepS]; rw [if_pos h0]; rfl) (by simp only [rstepB]; rw [if_pos h0])

def FPSI_v (f : Prm → Ste → Int → SV) : List SV → Option SV
  | [x, y, .v (.int .i64 z)] => match prmOf x.cells with
    | some p => match steOf y.cells with
      | some s => some (f p s z)
      | none => none
    | none => none
  | _ => none
abbrev FPSI (f : Prm → Ste → Int → SV) : Mem → List SV → Option (List Nat × SV) := plainF (FPSI_v f)
theorem PureV.ofPSI {g : FuncId} {f : Prm → Ste → Int → SV} (he : Enters Try.prog g) (hs : ∀ p s z S, (f p s z).sc S) (hf : ∀ p s z ρ, (f p s z).conc ρ = (f p s z).conc env0)
    (h : ∀ (p : Prm) (s : Ste) z w, Calls Try.prog g #[p.sv.conc env0, s.sv.conc env0, .int .i64 z] w fun e w' => e = .returned ((f p s z).conc env0) ∧ Ext w w') : PureV Try.prog g (FPSI_v f) where
  ent := he
  sc S args v hv _ := by
    unfold FPSI_v at hv
    split at hv
    · split at hv
      · split at hv
        · obtain rfl := Option.some.inj hv; exact hs _ _ _ _
        · cases hv
      · cases hv
    · cases hv
  run ρ args v w hv := by
    unfold FPSI_v at hv
    split at hv
    · split at hv
      · rename_i x y z _ p hp
        split at hv
        · rename_i s hs
          obtain rfl := Option.some.inj hv
          have := h p s z w
          simp only [SV.concs, prm_conc ρ hp, ste_conc ρ hs, hf p s z ρ]
          exact this
        · cases hv
      · cases hv
    · cases hv
theorem Pure.ofPSI {g : FuncId} {f : Prm → Ste → Int → SV} (he : Enters Try.prog g) (hs : ∀ p s z S, (f p s z).sc S) (hf : ∀ p s z ρ, (f p s z).conc ρ = (f p s z).conc env0)
    (h : ∀ (p : Prm) (s : Ste) z w, Calls Try.prog g #[p.sv.conc env0, s.sv.conc env0, .int .i64 z] w fun e w' => e = .returned ((f p s z).conc env0) ∧ Ext w w') : Pure Try.prog g (FPSI f) := (PureV.ofPSI he hs hf h).lift
/-- What 'Go' gives. -/
def goSV (p : Prm) (s : Ste) (x : Int) : SV := .tup [.agg [ii (rstepS p s x).v, ii (rstepS p s x).rest], .v (.bool (rstepB p s x))]
theorem go_pure : Pure Try.prog 41 (FPSI goSV) := Pure.ofPSI (ent _ _ Try.func41 (by kernel_rfl) rfl) (fun _ _ _ _ => by simp [goSV, SV.sc, SV.scs]) (fun _ _ _ _ => rfl) go_run
abbrev rpf4 : PF := (41, FPSI goSV) :: rpf3
theorem rpf4_ok : PF.oks Try.prog rpf4 := ⟨go_pure, rpf3_ok⟩

/-- The state, whether it fired, the error. -/
def rtickV (p : Prm) (s : Ste) (x : Int) : Value :=
  if vld p s = 0 then .tuple #[.agg #[.int .i64 (rstepS p s x).v, .int .i64 (rstepS p s x).rest], .bool (rstepB p s x), .int .i64 0]
  else .tuple #[.agg #[.int .i64 0, .int .i64 0], .bool false, .int .i64 (vld p s)]
theorem rTick_run (p : Prm) (s : Ste) (x : Int) (w : World) : Calls Try.prog 16 #[p.sv.conc env0, s.sv.conc env0, .int .i64 x] w fun e w' => e = .returned (rtickV p s x) ∧ Ext w w' := by
  obtain ⟨lk, leak, bias, thr, rk, reset, floor, rest⟩ := p
  obtain ⟨sv, sr⟩ := s
  refine Run.start0 (tab := tab) (pf := rpf4) (cuts := []) mixed tab_ok rpf4_ok Try.func16 rfl [.agg [ii lk, ii leak, ii bias, ii thr, ii rk, ii reset, ii floor, ii rest], .agg [ii sv, ii sr], ii x] 1000 (by simp [SV.scs, SV.sc]) rfl ?_
  conv => whnf
  cases hc : vld ⟨lk, leak, bias, thr, rk, reset, floor, rest⟩ ⟨sv, sr⟩ != 0
  · have h : vld ⟨lk, leak, bias, thr, rk, reset, floor, rest⟩ ⟨sv, sr⟩ = 0 := by simpa using hc
    conv => whnf
    exact ⟨fun ρ w' hW _ => ⟨by rw [rtickV, if_pos h]; rfl, hW.toExt⟩⟩
  · have h : ¬ vld ⟨lk, leak, bias, thr, rk, reset, floor, rest⟩ ⟨sv, sr⟩ = 0 := by simpa using hc
    conv => whnf
    exact ⟨fun ρ w' hW _ => ⟨by rw [rtickV, if_neg h]; rfl, hW.toExt⟩⟩

def rleakV (p : Prm) (v : Int) : Value :=
  if chk p ≠ 0 then .tuple #[.int .i64 0, .int .i64 (chk p)] else if wi v (-1048576) 1048576 then .tuple #[.int .i64 (rleak p.lk p.leak v), .int .i64 0] else .tuple #[.int .i64 0, .int .i64 3]
theorem rLeak_run (p : Prm) (v : Int) (w : World) : Calls Try.prog 23 #[p.sv.conc env0, .int .i64 v] w fun e w' => e = .returned (rleakV p v) ∧ Ext w w' := by
  obtain ⟨lk, leak, bias, thr, rk, reset, floor, rest⟩ := p
  refine Run.start0 (tab := tab) (pf := rpf4) (cuts := []) mixed tab_ok rpf4_ok Try.func23 rfl [.agg [ii lk, ii leak, ii bias, ii thr, ii rk, ii reset, ii floor, ii rest], ii v] 1000 (by simp [SV.scs, SV.sc]) rfl ?_
  conv => whnf
  cases hc : chk ⟨lk, leak, bias, thr, rk, reset, floor, rest⟩ != 0
  · have h0 : chk ⟨lk, leak, bias, thr, rk, reset, floor, rest⟩ = 0 := by simpa using hc
    conv => whnf
    cases h1 : wi v (-1048576) 1048576
    · conv => whnf
      exact ⟨fun ρ w' hW _ => ⟨by rw [rleakV, if_neg (fun h : chk _ ≠ 0 => h h0), if_neg (fun h => absurd (h1.symm.trans h) (by decide))]; rfl, hW.toExt⟩⟩
    · conv => whnf
      exact ⟨fun ρ w' hW _ => ⟨by rw [rleakV, if_neg (fun h : chk _ ≠ 0 => h h0), if_pos h1]; rfl, hW.toExt⟩⟩
  · have h0 : chk ⟨lk, leak, bias, thr, rk, reset, floor, rest⟩ ≠ 0 := by simpa using hc
    conv => whnf
    exact ⟨fun ρ w' hW _ => ⟨by rw [rleakV, if_pos h0]; rfl, hW.toExt⟩⟩

/-! ### They are the same -/
theorem W_eq (a : Int) : W a = (a + 9223372036854775808) % 18446744073709551616 - 9223372036854775808 := IntKind.wrap_i64 a
theorem W_add (a b : Int) : W (W a + b) = W (a + b) := by simp only [W_eq]; omega
theorem chk_parts {p : Prm} (h : chk p = 0) : (p.rk = 0 ∨ p.rk = 1) ∧ (p.lk = 1 → 1 ≤ p.leak ∧ p.leak ≤ 1048576) := by
  have h1 : ¬ (!(p.lk == 0 || p.lk == 1 || p.lk == 2) || !wi p.rk 0 1) = true := fun hc => by rw [chk, if_pos hc] at h; cases h
  rw [chk, if_neg h1, ite_eq_right_iff] at h
  simp only [Bool.not_eq_true', Bool.or_eq_true, not_or, Bool.not_eq_false] at h1
  refine ⟨by simp [wi] at h1; omega, fun hk => ?_⟩
  cases hl : wi p.leak (min 1 (most p.lk)) (most p.lk)
  · exact absurd (h (by simp [hl])) (by decide)
  · rw [hk] at hl
    simp [wi, most] at hl
    omega
theorem leak_same {p : Prm} (h : chk p = 0) (v : Int) : leakW p.lk p.leak v = rleak p.lk p.leak v := by
  have hl := (chk_parts h).2
  unfold leakW rleak
  rcases chk_known h with e | e | e
  · rw [e]; rfl
  · have hl := hl e
    rw [e, if_neg (by decide), if_pos rfl, if_pos rfl]
    simp only [W_eq]
    split <;> split <;> omega
  · rw [e]; rfl
theorem stepV_same {p : Prm} (h : chk p = 0) (s : Ste) (x : Int) : stepV p s x = rstepV p s x := by
  unfold stepV rstepV
  rw [leak_same h, W_add, W_add, show rleak p.lk p.leak s.v + p.bias + max (-4194304) (min 4194304 x) = rleak p.lk p.leak s.v + max (-4194304) (min 4194304 x) + p.bias by omega]
theorem step_same {p : Prm} (h : chk p = 0) {s : Ste} (hr : 0 ≤ s.rest) (x : Int) : stepS p s x = rstepS p s x ∧ stepB p s x = rstepB p s x := by
  unfold stepS rstepS stepB rstepB
  rw [stepV_same h]
  refine ⟨?_, rfl⟩
  split
  · rfl
  · rename_i h0
    have : s.rest = 0 := by omega
    rw [this]
    split
    · rfl
    · rcases (chk_parts h).1 with e | e <;> rw [e] <;> rfl
theorem tick_same (p : Prm) (s : Ste) (x : Int) : tickV p s x = rtickV p s x := by
  unfold tickV rtickV
  split
  · rename_i h
    obtain ⟨h1, _, h2⟩ := vld_zero h
    obtain ⟨e1, e2⟩ := step_same h1 (s := s) (by simp [wi] at h2; omega) x
    rw [e1, e2]
  · rfl
theorem leakV_same (p : Prm) (v : Int) : leakV p v = rleakV p v := by
  unfold leakV rleakV
  split
  · rfl
  · rename_i h
    rw [leak_same (by simpa using h)]
end Go.Proofs.Ytoipnojibkjjnaa
