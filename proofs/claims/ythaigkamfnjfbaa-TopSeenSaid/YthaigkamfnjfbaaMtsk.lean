/-
  Laws of the executor, and walks of functions (part 11). The conditions stand with each law.
-/
import Derived.Test.YthaigkamfnjfbaaMtsj
namespace Go.Proofs.Ythaigkamfnjfbaa
open Go.Sx
set_option maxRecDepth 100000
set_option maxHeartbeats 4000000
/-- The bytes of what was recorded. -/
theorem bytes_spec (l : List Evt) (hl : PackOK l) : BSpec Try.prog 11 [.ptr 0 0] [(0, .cells [.v (.bool true), .opq 1] 67), (1, .row 2 l.length (l.flatMap Evt.cells) 45)] 2 [0, 1] (.tup [.opq 2, ii 0]) [(0, .cells [.v (.bool true), .opq 1] 67), (1, .row 2 l.length (l.flatMap Evt.cells) 45), (2, .row 1 (packB l).length ((packB l).map fun x => u8s x) 5)] 3 := by
  have hc : ∀ w L' rd, (∀ p, rd = some p → p ∈ L') → Cx.ok ⟨Try.prog, tab, [], 11, Try.f11, [], w, L', rd⟩ := fun w L' rd h => ⟨tab_ok, trivial, Try.func11, mixed, h⟩
  refine BSpec.start (tab := tab) (pf := []) (cuts := []) Try.func11 rfl ⟨(show 0 < 2 by decide), trivial⟩ rfl fun w L0 plp hL hLB hcov => Run.of_wpK (hc w L0 none (fun _ h => by cases h)) 100 _ ?_
  generalize hRR : SpecR _ _ _ _ _ _ = RR
  conv => whnf
  refine Run.callP (vs := [.ptr 0 0]) (caps := []) is_spec (ent _ _ Try.func21 (by kernel_rfl) rfl) rfl rfl rfl rfl rfl rfl rfl (by decide) (by decide)
    ⟨⟨by omega, by simp [SObj.sc, SV.scs, SV.sc], ⟨_, rfl, Conv.refl _⟩, .inr (by simp), fun h => by cases h⟩, trivial⟩ (fun i hi => by
      have hq2 : i = 0 := by simpa using hi
      subst hq2; exact ⟨by omega, _, rfl⟩) (.v (.bool true)) [(2, .pin plp), (0, .cells [.v (.bool true), .opq 1] 67), (1, .row 2 l.length (l.flatMap Evt.cells) 45)] 3 rfl rfl
    ⟨.inl ⟨rfl, by simp⟩, .inr ⟨0, _, rfl, rfl, rfl, rfl⟩, .inl ⟨rfl, by simp⟩, trivial⟩ ?_
  refine Run.of_wpK (hc w L0 none (fun _ h => by cases h)) 1000 _ ?_
  conv => whnf
  refine Run.callO (vs := [.opq 1]) (caps := []) (fun x => x) (fun x => x) (fun ρ w1 hW => by
    have h8 := hW.rowsAtR (i := 1) rfl (by decide)
    rw [evts_v, concs_v] at h8
    exact pack_run _ l hl w1 h8) (ent _ _ Try.func23 (by kernel_rfl) rfl) rfl rfl rfl rfl rfl rfl rfl (fun _ _ => rfl) (fun _ _ h => h) ?_
  rw [show ((packB l).map u8v).map SV.v = (packB l).map fun x => u8s x from by rw [List.map_map]; rfl]
  refine Run.of_wpK (hc w L0 none (fun _ h => by cases h)) 1000 _ ?_
  conv => whnf
  rw [← hRR]
  exact SpecR.intro 3 (by decide) hLB (by decide) hcov rfl rfl ⟨(show 2 < 3 by decide), trivial, trivial⟩ ⟨⟨rfl, by omega, by simp [SObj.sc, SV.scs, SV.sc]⟩, ⟨congrArg some (oren_fix (S := fun _ => False) (fun _ hi => hi.elim) (o := .row 2 l.length (l.flatMap Evt.cells) 45) (scs_evts _ _)).symm, by omega, scs_evts _ _⟩, ⟨congrArg some (fix_u8 _ _ _).symm, by omega, scs_u8 _ _⟩, trivial⟩
/-- Equal bytes are equal. -/
theorem equalB_run (v v2 : Value) (l : List Int) (hl : l.length ≤ 100000000) (w : World) (hr : RowsAt w v 1 l.length (l.map u8v)) (hr2 : RowsAt w v2 1 l.length (l.map u8v)) : Calls Try.prog 28 #[v, v2] w fun e w' => e = .returned (.bool true) ∧ Ext w w' := by
  have hc : ∀ w L' rd, (∀ p, rd = some p → p ∈ L') → Cx.ok ⟨Try.prog, tab, [], 28, Try.f28, [], w, L', rd⟩ := fun w L' rd h => ⟨tab_ok, trivial, Try.func28, mixed, h⟩
  have hrows : AllP (fun x : Value × Nat × Nat × List Value => RowsAt w x.1 x.2.1 x.2.2.1 x.2.2.2) [(v, 1, l.length, l.map u8v), (v2, 1, l.length, l.map u8v)] := ⟨hr, hr2, trivial⟩
  refine Run.startW (tab := tab) (pf := []) (cuts := []) Try.func28 rfl _ hrows [.opq 0, .opq 1] [v, v2] [(0, .rwin 1 l.length (l.map u8v)), (1, .rwin 1 l.length (l.map u8v))] 2 rfl rfl (by show [(SV.opq 0).conc _, (SV.opq 1).conc _] = _; rw [conc_rows hrows (k := 0) rfl, conc_rows hrows (k := 1) rfl]) (by simp [SV.scs, SV.sc]) rfl (Run.of_wpK (hc w [] none (fun _ h => by cases h)) 100 _ ?_)
  conv => whnf
  rw [show ((l.length : Int) != (l.length : Int)) = false by simp]
  conv => whnf
  refine Run.trim (T' := [(0, .opq 0), (1, .opq 1), (12, ii (l.length : Int)), (13, ii (((0 : Nat) : Nat) : Int))]) (M' := [(0, .rwin 1 l.length (l.map u8v)), (1, .rwin 1 l.length (l.map u8v))]) 2 ⟨⟨rfl, (show 0 < 2 by decide)⟩, ⟨rfl, (show 1 < 2 by decide)⟩, ⟨rfl, trivial⟩, ⟨rfl, trivial⟩, trivial⟩ ⟨⟨rfl, by omega, trivial⟩, ⟨rfl, by omega, trivial⟩, trivial⟩ (fun p hp => by cases hp) ?_
  refine Run.upToJ (T := fun i => [(0, .opq 0), (1, .opq 1), (12, ii (l.length : Int)), (13, ii ((i : Nat) : Int))]) (M := fun i => [(0, .rwin 1 l.length (l.map u8v)), (1, .rwin 1 l.length (l.map u8v))]) (fun _ => True) (l.length) (trivial) ?_ ?_
  · intro i hi hJ ih
    refine Run.of_wpK (hc w [] none (fun _ h => by cases h)) 1000 _ ?_
    conv => whnf
    rw [decide_eq_true (show ((i : Nat) : Int) < (l.length : Int) by omega)]
    conv => whnf
    refine Run.draw (hc w [] none (fun _ h => by cases h)) 8 ?_
    rw [show upto 0 8 = upto 0 3 ++ (upto 3 1 ++ (upto 4 3 ++ upto 7 1)) from rfl]
    simp only [drawK_app]
    conv => whnf
    refine ⟨by omega, ?_⟩
    conv => whnf
    rw [opF_loadWf (f := fun x : Int => [u8v x]) (l := l) (c := u8v (l.getD i 0)) i 0 rfl rfl (by rw [flat_u8 l]; rfl) rfl (fun _ => rfl) (by rw [idx_nat]; rfl) hi (by decide) (congrArg (fun x => some (u8v x)) (show l[i] = l.getD i 0 by simp [List.getD_eq_getElem?_getD, hi]))]
    conv => whnf
    refine ⟨by omega, ?_⟩
    conv => whnf
    rw [opF_loadWf (f := fun x : Int => [u8v x]) (l := l) (c := u8v (l.getD i 0)) i 0 rfl rfl (by rw [flat_u8 l]; rfl) rfl (fun _ => rfl) (by rw [idx_nat]; rfl) hi (by decide) (congrArg (fun x => some (u8v x)) (show l[i] = l.getD i 0 by simp [List.getD_eq_getElem?_getD, hi]))]
    conv => whnf
    refine ⟨by kernel_rfl, ?_⟩
    refine Run.of_wpK (hc w [] none (fun _ h => by cases h)) 1000 _ ?_
    conv => whnf
    rw [show (l.getD i 0 != l.getD i 0) = false by simp]
    conv => whnf
    exact Run.trim (T' := [(0, .opq 0), (1, .opq 1), (12, ii (l.length : Int)), (13, ii (((i + 1 : Nat) : Nat) : Int))]) (M' := [(0, .rwin 1 l.length (l.map u8v)), (1, .rwin 1 l.length (l.map u8v))]) 2 ⟨⟨rfl, (show 0 < 2 by decide)⟩, ⟨rfl, (show 1 < 2 by decide)⟩, ⟨rfl, trivial⟩, ⟨congrArg some (congrArg ii (wrap_succ (by omega))), trivial⟩, trivial⟩ ⟨⟨rfl, by omega, trivial⟩, ⟨rfl, by omega, trivial⟩, trivial⟩ (fun p hp => by cases hp) (ih (trivial))
  · intro hJ
    refine Run.of_wpK (hc w [] none (fun _ h => by cases h)) 1000 _ ?_
    conv => whnf
    rw [decide_eq_false (show ¬ ((l.length : Nat) : Int) < (l.length : Int) by omega)]
    conv => whnf
    exact ⟨fun ρ w' hW _ => ⟨rfl, hW.toExt⟩⟩
/-- Equal lists of events are the same. -/
theorem same_run (v v2 : Value) (l : List Evt) (hl : l.length ≤ 100000000) (w : World) (hr : RowsAt w v 2 l.length (l.flatMap Evt.vals)) (hr2 : RowsAt w v2 2 l.length (l.flatMap Evt.vals)) : Calls Try.prog 13 #[v, v2] w fun e w' => e = .returned (.bool true) ∧ Ext w w' := by
  have hc : ∀ w L' rd, (∀ p, rd = some p → p ∈ L') → Cx.ok ⟨Try.prog, tab, [], 13, Try.f13, [], w, L', rd⟩ := fun w L' rd h => ⟨tab_ok, trivial, Try.func13, mixed, h⟩
  have hrows : AllP (fun x : Value × Nat × Nat × List Value => RowsAt w x.1 x.2.1 x.2.2.1 x.2.2.2) [(v, 2, l.length, l.flatMap Evt.vals), (v2, 2, l.length, l.flatMap Evt.vals)] := ⟨hr, hr2, trivial⟩
  refine Run.startW (tab := tab) (pf := []) (cuts := []) Try.func13 rfl _ hrows [.opq 0, .opq 1] [v, v2] [(0, .rwin 2 l.length (l.flatMap Evt.vals)), (1, .rwin 2 l.length (l.flatMap Evt.vals))] 2 rfl rfl (by show [(SV.opq 0).conc _, (SV.opq 1).conc _] = _; rw [conc_rows hrows (k := 0) rfl, conc_rows hrows (k := 1) rfl]) (by simp [SV.scs, SV.sc]) rfl (Run.of_wpK (hc w [] none (fun _ h => by cases h)) 100 _ ?_)
  conv => whnf
  rw [show ((l.length : Int) != (l.length : Int)) = false by simp]
  conv => whnf
  refine Run.trim (T' := [(0, .opq 0), (1, .opq 1), (5, ii (((0 : Nat) : Nat) : Int))]) (M' := [(0, .rwin 2 l.length (l.flatMap Evt.vals)), (1, .rwin 2 l.length (l.flatMap Evt.vals))]) 2 ⟨⟨rfl, (show 0 < 2 by decide)⟩, ⟨rfl, (show 1 < 2 by decide)⟩, ⟨rfl, trivial⟩, trivial⟩ ⟨⟨rfl, by omega, trivial⟩, ⟨rfl, by omega, trivial⟩, trivial⟩ (fun p hp => by cases hp) ?_
  refine Run.upToJ (T := fun i => [(0, .opq 0), (1, .opq 1), (5, ii ((i : Nat) : Int))]) (M := fun i => [(0, .rwin 2 l.length (l.flatMap Evt.vals)), (1, .rwin 2 l.length (l.flatMap Evt.vals))]) (fun _ => True) (l.length) (trivial) ?_ ?_
  · intro i hi hJ ih
    refine Run.of_wpK (hc w [] none (fun _ h => by cases h)) 1000 _ ?_
    conv => whnf
    rw [decide_eq_true (show ((i : Nat) : Int) < (l.length : Int) by omega)]
    conv => whnf
    refine Run.draw (hc w [] none (fun _ h => by cases h)) 8 ?_
    rw [show upto 0 8 = upto 0 3 ++ (upto 3 1 ++ (upto 4 3 ++ upto 7 1)) from rfl]
    simp only [drawK_app]
    conv => whnf
    refine ⟨by omega, ?_⟩
    conv => whnf
    rw [opF_loadW (f := Evt.vals) (l := l) i rfl rfl rfl rfl rfl Evt.vlen (by rw [idx_nat]) hi]
    conv => whnf
    refine ⟨by omega, ?_⟩
    conv => whnf
    rw [opF_loadW (f := Evt.vals) (l := l) i rfl rfl rfl rfl rfl Evt.vlen (by rw [idx_nat]) hi]
    conv => whnf
    refine ⟨by kernel_rfl, ?_⟩
    refine Run.of_wpK (hc w [] none (fun _ h => by cases h)) 1000 _ ?_
    conv => whnf
    rw [show (!(l[i].tick == l[i].tick && (l[i].id == l[i].id && true))) = false by simp]
    conv => whnf
    exact Run.trim (T' := [(0, .opq 0), (1, .opq 1), (5, ii (((i + 1 : Nat) : Nat) : Int))]) (M' := [(0, .rwin 2 l.length (l.flatMap Evt.vals)), (1, .rwin 2 l.length (l.flatMap Evt.vals))]) 2 ⟨⟨rfl, (show 0 < 2 by decide)⟩, ⟨rfl, (show 1 < 2 by decide)⟩, ⟨congrArg some (congrArg ii (wrap_succ (by omega))), trivial⟩, trivial⟩ ⟨⟨rfl, by omega, trivial⟩, ⟨rfl, by omega, trivial⟩, trivial⟩ (fun p hp => by cases hp) (ih (trivial))
  · intro hJ
    refine Run.of_wpK (hc w [] none (fun _ h => by cases h)) 1000 _ ?_
    conv => whnf
    rw [decide_eq_false (show ¬ ((l.length : Nat) : Int) < (l.length : Int) by omega)]
    conv => whnf
    exact ⟨fun ρ w' hW _ => ⟨rfl, hW.toExt⟩⟩
set_option maxHeartbeats 8000000
def u8of : List Value → Option (List Int)
  | [] => some []
  | .int .u8 x :: l => match u8of l with
    | some r => some (x :: r)
    | none => none
  | _ => none
theorem u8of_map : ∀ l : List Int, u8of (l.map u8v) = some l
  | [] => rfl
  | x :: l => by
    show (match u8of (l.map u8v) with | some r => some (x :: r) | none => none) = _
    rw [u8of_map l]
theorem u8of_eq : ∀ {vs : List Value} {l : List Int}, u8of vs = some l → vs = l.map u8v := by
  intro vs
  induction vs with
  | nil => intro l h; obtain rfl := Option.some.inj h; rfl
  | cons v vs ih =>
    intro l h
    unfold u8of at h
    split at h
    · rename_i e; cases e
    · rename_i x l' e
      obtain ⟨rfl, rfl⟩ := List.cons.inj e
      split at h
      · rename_i r hr
        obtain rfl := Option.some.inj h
        rw [ih hr]; rfl
      · cases h
    · cases h
def FSum : Mem → List SV → Option (List Nat × SV) := fun M args => match args with
  | [.opq i] => match M i with
    | some (.rwin e m vs) => match e with
      | 1 => match u8of vs with
        | some l => match Nat.ble m 100000000 with
          | true => some ([i], .agg [u8s (sumB l).1, u8s (sumB l).2])
          | false => none
        | none => none
      | _ => none
    | _ => none
  | _ => none
theorem FSum_some {M : Mem} {args : List SV} {bs : List Nat} {v : SV} (h : FSum M args = some (bs, v)) : ∃ i m l, args = [.opq i] ∧ M i = some (.rwin 1 m (l.map u8v)) ∧ m ≤ 100000000 ∧ bs = [i] ∧ v = .agg [u8s (sumB l).1, u8s (sumB l).2] := by
  unfold FSum at h
  split at h
  · rename_i i
    split at h
    · rename_i e m vs hM
      split at h
      · split at h
        · rename_i l hl
          split at h
          · rename_i hm
            obtain ⟨rfl, rfl⟩ := Prod.mk.inj (Option.some.inj h)
            exact ⟨i, m, l, rfl, by rw [hM, u8of_eq hl], Nat.le_of_ble_eq_true hm, rfl, rfl⟩
          · cases h
        · cases h
      · cases h
    · cases h
  · cases h
theorem FSum_win {M : Mem} {i m : Nat} {l : List Int} (h : M i = some (.rwin 1 m (l.map u8v))) (hm : m ≤ 100000000) : FSum M [.opq i] = some ([i], .agg [u8s (sumB l).1, u8s (sumB l).2]) := by
  unfold FSum
  simp only [h, u8of_map, Nat.ble_eq_true_of_le hm]
theorem sums_pure : Pure Try.prog 24 FSum where
  ent := ent _ _ Try.func24 (by kernel_rfl) rfl
  sc S M args bs v hv _ := by
    obtain ⟨_, _, _, _, _, _, _, rfl⟩ := FSum_some hv
    exact ⟨trivial, trivial, trivial⟩
  cong M M' args bs v hv hb := by
    obtain ⟨i, m, l, rfl, h1, h2, rfl, rfl⟩ := FSum_some hv
    exact FSum_win (by rw [hb i (by simp)]; exact h1) h2
  run w0 L ρ M S args bs v w hW hv := by
    obtain ⟨i, m, l, rfl, h1, h2, rfl, rfl⟩ := FSum_some hv
    have h8 := hW.rowsAt h1
    have hm : l.length = m := by have := h8.1; simpa using this
    subst hm
    exact sums_run _ l h2 w h8
theorem opF_sliceH {tab : Tab} {pf : PF} {T : Tm} {M : Mem} {n : Nat} {t te : TypeId} {x hx : Operand} {lo : Option Operand} {ti : TI} {by_ b e m l h : Nat} {lo' : Option Int} {k : IntKind} {vs : List Value} (ht : Sx.look tab t = some ti) (hs : ti.sh = .slc te e by_) (hxv : ev T x = some (.opq b)) (hM : M b = some (.rwin e m vs)) (hlo : evO T lo = some lo') (hl : lo'.getD 0 = (l : Int)) (hh : ev T hx = some (.v (.int k (h : Int)))) (h1 : l ≤ h) (h2 : h ≤ m) :
    opF tab pf T M n (.slice t x lo (some hx) none) = some (.new (.opq n) (.rwin e (h - l) ((vs.drop (l * e)).take ((h - l) * e)))) := by
  have hd : decide (0 ≤ lo'.getD 0 ∧ lo'.getD 0 ≤ (h : Int) ∧ (h : Int) ≤ (m : Int)) = true := decide_eq_true (by rw [hl]; omega)
  simp only [opF, opSlice2, ht, hs, hxv, hM, Nat.beq_refl, hlo, hh, hd]
  rw [hl]; rfl
/-- What is asked of a stream: its events may follow each other. -/
structure StreamOK (l : List Evt) : Prop where
  pk : PackOK l
  ok : ∀ i (h : i < l.length), EvtOK l[i]
  lt : ∀ i (h : i < l.length), 0 < i → ltE (l[i - 1]'(by omega)) l[i]
theorem unpack_run (v : Value) (l : List Evt) (hs : StreamOK l) (pos mid q1 q2 : Nat → Nat) (hu : UnpOK l pos mid q1 q2) (w : World) (hr : RowsAt w v 1 (packB l).length ((packB l).map u8v)) : Calls Try.prog 12 #[v] w fun e w' => ∃ u, e = .returned (.tuple #[u, .int .i64 0]) ∧ Ext w w' ∧ w'.ownsRow w.heap.size 45 2 u l.length (l.flatMap Evt.vals) := by
  have hl := hs.pk
  have hll := hl.len
  have hCle := (pS_ok hl l.length (Nat.le_refl _)).le
  have hC5 := hu.h5
  have hcnt := hu.cnt
  have hr1 := hu.r1
  have hv1 := hu.v1
  have hr2 := hu.r2
  have hv2 := hu.v2
  have hpk : packB l = (pS l l.length).1.1 ++ [(sumB (pS l l.length).1.1).1, (sumB (pS l l.length).1.1).2] := rfl
  obtain ⟨C, hC⟩ : ∃ C, (pS l l.length).1.1 = C := ⟨_, rfl⟩
  rw [hC] at hpk hCle hC5 hr1 hr2 hcnt
  simp only [hC] at hv1 hv2
  obtain ⟨cd, hcd⟩ : ∃ cd, C.drop 5 = cd := ⟨_, rfl⟩
  rw [hcd] at hr1 hr2
  simp only [hcd] at hv1 hv2
  have hPL : (packB l).length = C.length + 2 := by rw [hpk]; simp
  have hcl : cd.length = C.length - 5 := by rw [← hcd]; simp
  have hd1 : List.drop (C.length * 1) ((packB l).map u8v) = [u8v (sumB C).1, u8v (sumB C).2] := by
    rw [hpk, List.map_append, show C.length * 1 = (C.map u8v).length by simp, List.drop_left]; rfl
  have hd2 : List.take ((C.length - 0) * 1) (List.drop (0 * 1) ((packB l).map u8v)) = C.map u8v := by
    show List.take ((C.length - 0) * 1) (List.drop 0 ((packB l).map u8v)) = _
    rw [List.drop_zero, hpk, List.map_append, show (C.length - 0) * 1 = (C.map u8v).length by simp, List.take_left]
  have hd3 : List.take ((C.length - 5) * 1) (List.drop (5 * 1) ((packB l).map u8v)) = cd.map u8v := by
    show List.take ((C.length - 5) * 1) (List.drop 5 ((packB l).map u8v)) = _
    rw [hpk, List.map_append, List.drop_append_of_le_length (by simpa using hC5), ← hcd, List.map_drop, show (C.length - 5) * 1 = ((C.map u8v).drop 5).length by simp, List.take_left]
  have hgd : ∀ k, k < 5 → (packB l).getD k 0 = C.getD k 0 := fun k hk => by
    rw [hpk, List.getD_eq_getElem?_getD, List.getD_eq_getElem?_getD, List.getElem?_append_left (by omega)]
  have hw1 : IntKind.i64.wrap (((packB l).length : Int) - 2) = ((C.length : Nat) : Int) := by
    rw [show ((packB l).length : Int) - 2 = ((C.length : Nat) : Int) by omega]; exact W_id (by omega) (by omega)
  have hc : ∀ w L' rd, (∀ p, rd = some p → p ∈ L') → Cx.ok ⟨Try.prog, tab, [(26, plainF fun l => match l with | [] => some (.agg [ii 4, ii 1]) | _ => none), (24, FSum), (2000, fun _ _ => none)], 12, Try.f12, [], w, L', rd⟩ := fun w L' rd h => ⟨tab_ok, ⟨first_pure, sums_pure, trivial, trivial⟩, Try.func12, mixed, h⟩
  have hrows : AllP (fun x : Value × Nat × Nat × List Value => RowsAt w x.1 x.2.1 x.2.2.1 x.2.2.2) [(v, 1, (packB l).length, (packB l).map u8v)] := ⟨hr, trivial⟩
  refine Run.startW (tab := tab) (pf := [(26, plainF fun l => match l with | [] => some (.agg [ii 4, ii 1]) | _ => none), (24, FSum), (2000, fun _ _ => none)]) (cuts := []) Try.func12 rfl _ hrows [.opq 0] [v] [(0, .rwin 1 (packB l).length ((packB l).map u8v))] 1 rfl rfl (by show [(SV.opq 0).conc _] = _; rw [conc_rows hrows (k := 0) rfl]) (by simp [SV.scs, SV.sc]) rfl (Run.of_wpK (hc w [] none (fun _ h => by cases h)) 100 _ ?_)
  generalize hRR : (fun (e : Ending) (w' : World) => ∃ u, e = .returned (.tuple #[u, .int .i64 0]) ∧ Ext w w' ∧ w'.ownsRow w.heap.size 45 2 u l.length (l.flatMap Evt.vals)) = RR
  conv => whnf
  rw [hw1, decide_eq_false (show ¬ ((C.length : Nat) : Int) < (5 : Int) by omega)]
  conv => whnf
  refine Run.draw (hc w [] none (fun _ h => by cases h)) 9 ?_
  rw [show upto 0 9 = upto 0 3 ++ (upto 3 1 ++ (upto 4 1 ++ (upto 5 3 ++ upto 8 1))) from rfl]
  simp only [drawK_app]
  conv => whnf
  rw [opF_sliceW C.length rfl rfl rfl rfl rfl rfl (by omega), hd1]
  conv => whnf
  refine ⟨by omega, ?_⟩
  conv => whnf
  rw [opF_sliceH (l := 0) (h := C.length) rfl rfl rfl rfl rfl rfl rfl (by omega) (by omega), hd2]
  conv => whnf
  rw [opF_callG (F := FSum) (caps := []) (vs := [.opq 8]) rfl rfl rfl rfl (FSum_win (l := C) rfl (by omega))]
  conv => whnf
  refine ⟨by kernel_rfl, ?_⟩
  obtain ⟨inf5, _, hi5, hs5, _, _⟩ := (Tab.ok_look tab_ok (show Sx.look tab 5 = some _ from rfl)).infos
  refine Run.of_wpK (hc w [] none (fun _ h => by cases h)) 1000 _ ?_
  conv => whnf
  refine Run.neqArr2 (el := 5) (inf := inf5) (sumB C).1 (sumB C).2 (sumB C).1 (sumB C).2 rfl rfl rfl rfl rfl rfl (by kernel_rfl) (by kernel_rfl) hi5 hs5 (by kernel_rfl) ?_
  rw [show (!((sumB C).1 == (sumB C).1 && (sumB C).2 == (sumB C).2)) = false by simp]
  refine Run.of_wpK (hc w [] none (fun _ h => by cases h)) 1000 _ ?_
  conv => whnf
  rw [opF_sliceH (l := 5) (h := C.length) rfl rfl rfl rfl rfl rfl rfl (by omega) (by omega), hd3, ← hcl]
  conv => whnf
  refine Run.callR (vs := [.opq 0]) (caps := []) (caps2 := []) (reader_spec cd) (ent _ _ Try.func25 (by kernel_rfl) rfl) rfl rfl rfl rfl rfl rfl [.opq 12] rfl (rq [(0, 12), (12, 0)]) rfl (fun q hq => by have inv : ∀ q, q < 1 → (rq [(0, 12), (12, 0)]) q < 13 := (by decide); exact inv q hq) (fun q hq j hj hne => by have inj : ∀ i, i < 1 → ∀ j, j < 1 → i ≠ j → (rq [(0, 12), (12, 0)]) i ≠ (rq [(0, 12), (12, 0)]) j := (by decide); exact inj q hq j hj hne) (by decide)
    ⟨⟨by omega, trivial, ⟨_, rfl, Conv.refl _⟩, .inl rfl, fun _ => by simp⟩, trivial⟩ (fun q hq => by cases hq) (.fn 43 [.ptr 14 0, .ptr 13 0]) [(13, .cells [.opq 12] 22), (14, .cells [ii 0] 3), (0, .rwin 1 (packB l).length ((packB l).map u8v)), (12, .rwin 1 cd.length (cd.map u8v))] 15 rfl rfl
    ⟨.inr ⟨1, _, rfl, rfl, rfl, rfl⟩, .inr ⟨2, _, rfl, rfl, rfl, rfl⟩, .inl ⟨rfl, (fun q hq => by cases hq)⟩, .inl ⟨rfl, (fun q hq => by cases hq)⟩, trivial⟩ ?_
  refine Run.of_wpK (hc w [] none (fun _ h => by cases h)) 1000 _ ?_
  conv => whnf
  refine Run.draw (hc w [] none (fun _ h => by cases h)) 17 ?_
  rw [show upto 0 17 = upto 0 2 ++ (upto 2 1 ++ (upto 3 2 ++ (upto 5 2 ++ (upto 7 1 ++ (upto 8 2 ++ (upto 10 3 ++ (upto 13 1 ++ upto 14 3))))))) from rfl]
  simp only [drawK_app]
  conv => whnf
  refine ⟨by omega, ?_⟩
  conv => whnf
  rw [opF_loadWf (f := fun x : Int => [u8v x]) (l := packB l) (c := u8v (C.getD 2 0)) 2 0 rfl rfl (by rw [flat_u8 (packB l)]; rfl) rfl (fun _ => rfl) rfl (by omega) (by decide) (congrArg (fun x => some (u8v x)) (show (packB l)[2]'(by omega) = C.getD 2 0 by rw [← hgd 2 (by decide)]; simp [List.getD_eq_getElem?_getD, show 2 < (packB l).length by omega]))]
  conv => whnf
  refine ⟨by decide, ?_⟩
  conv => whnf
  refine ⟨by omega, ?_⟩
  conv => whnf
  rw [opF_loadWf (f := fun x : Int => [u8v x]) (l := packB l) (c := u8v (C.getD 3 0)) 3 0 rfl rfl (by rw [flat_u8 (packB l)]; rfl) rfl (fun _ => rfl) rfl (by omega) (by decide) (congrArg (fun x => some (u8v x)) (show (packB l)[3]'(by omega) = C.getD 3 0 by rw [← hgd 3 (by decide)]; simp [List.getD_eq_getElem?_getD, show 3 < (packB l).length by omega]))]
  conv => whnf
  refine ⟨by decide, ?_⟩
  conv => whnf
  refine ⟨by omega, ?_⟩
  conv => whnf
  rw [opF_loadWf (f := fun x : Int => [u8v x]) (l := packB l) (c := u8v (C.getD 4 0)) 4 0 rfl rfl (by rw [flat_u8 (packB l)]; rfl) rfl (fun _ => rfl) rfl (by omega) (by decide) (congrArg (fun x => some (u8v x)) (show (packB l)[4]'(by omega) = C.getD 4 0 by rw [← hgd 4 (by decide)]; simp [List.getD_eq_getElem?_getD, show 4 < (packB l).length by omega]))]
  conv => whnf
  refine ⟨by kernel_rfl, ?_⟩
  refine Run.of_wpK (hc w [] none (fun _ h => by cases h)) 1000 _ ?_
  conv => whnf
  refine Run.nils (T' := [(0, .opq 0), (5, .fn 43 [.ptr 14 0, .ptr 13 0]), (6, .ptr 15 0), (7, .ptr 16 0), (8, .opq 34), (53, ii (cntH (C.getD 2 0) (C.getD 3 0) (C.getD 4 0))), (54, ii 0)]) (M' := [(34, .row 2 0 [] 45), (0, .rwin 1 (packB l).length ((packB l).map u8v)), (12, .rwin 1 cd.length (cd.map u8v)), (13, .cells [.opq 12] 22), (14, .cells [ii 0] 3), (15, .cells [ii 4, ii 1] 75), (16, .cells [ii 4, ii 1] 75)]) 1 (fun _ => .row 2 0 [] 45) (fun _ _ => .inl ⟨_, _, rfl⟩) ⟨⟨_, rfl, .inl rfl⟩, ⟨_, rfl, .inl rfl⟩, ⟨_, rfl, .inl rfl⟩, ⟨_, rfl, .inl rfl⟩, ⟨_, rfl, .inr (.inl ⟨rfl, 0, by decide, rfl⟩)⟩, ⟨_, rfl, .inl rfl⟩, ⟨_, rfl, .inl rfl⟩, trivial⟩ ⟨.inl ⟨0, by decide, rfl⟩, .inr ⟨_, rfl, .inl rfl⟩, .inr ⟨_, rfl, .inl rfl⟩, .inr ⟨_, rfl, .inl rfl⟩, .inr ⟨_, rfl, .inl rfl⟩, .inr ⟨_, rfl, .inl rfl⟩, .inr ⟨_, rfl, .inl rfl⟩, trivial⟩ ?_
  rw [hcnt]
  refine Run.trimQ (T' := [(0, .opq 0), (5, .fn 43 [.ptr 3 0, .ptr 2 0]), (6, .ptr 4 0), (7, .ptr 5 0), (8, .opq 6), (53, ii (l.length : Int)), (54, ii ((0 : Nat) : Int))]) (M' := [(0, .rwin 1 (packB l).length ((packB l).map u8v)), (1, .rwin 1 cd.length (cd.map u8v)), (2, .cells [.opq 1] 22), (3, .cells [ii ((pos 0 : Nat) : Int)] 3), (4, .cells [ii (pS l 0).2.1.1, ii (pS l 0).2.1.2] 75), (5, .cells [ii (pS l 0).2.2.1, ii (pS l 0).2.2.2] 75), (6, .row 2 0 ((l.take 0).flatMap Evt.cells) 45)]) (rq [(1, 12), (12, 1), (2, 13), (13, 2), (3, 14), (14, 3), (4, 15), (15, 4), (5, 16), (16, 5), (6, 34), (34, 6)]) 7 ?inj ⟨⟨rfl, (show 0 < 7 by decide)⟩, ⟨rfl, (show 3 < 7 by decide), (show 2 < 7 by decide), trivial⟩, ⟨rfl, (show 4 < 7 by decide)⟩, ⟨rfl, (show 5 < 7 by decide)⟩, ⟨rfl, (show 6 < 7 by decide)⟩, ⟨rfl, trivial⟩, ⟨rfl, trivial⟩, trivial⟩ ⟨⟨rfl, by omega, trivial⟩, ⟨rfl, by omega, trivial⟩, ⟨rfl, by omega, by simp [SObj.sc, SV.scs, SV.sc]⟩, ⟨by rw [hu.p0]; rfl, by omega, by simp [SObj.sc, SV.scs, SV.sc]⟩, ⟨rfl, by omega, by simp [SObj.sc, SV.scs, SV.sc]⟩, ⟨rfl, by omega, by simp [SObj.sc, SV.scs, SV.sc]⟩, ⟨congrArg some (oren_fix (S := fun _ => False) (fun _ hi => hi.elim) (o := .row 2 0 ((l.take 0).flatMap Evt.cells) 45) (scs_evts _ _)).symm, by omega, scs_evts _ _⟩, trivial⟩ (fun p hp => by cases hp) ?_
  case inj =>
    intro i hi j hj hne he
    have inv : ∀ i, i < 7 → rq [(1, 12), (12, 1), (2, 13), (13, 2), (3, 14), (14, 3), (4, 15), (15, 4), (5, 16), (16, 5), (6, 34), (34, 6)] (rq [(1, 12), (12, 1), (2, 13), (13, 2), (3, 14), (14, 3), (4, 15), (15, 4), (5, 16), (16, 5), (6, 34), (34, 6)] i) = i := by decide
    exact hne (by rw [← inv i hi, he, inv j hj])
  refine Run.upToJ (T := fun i => [(0, .opq 0), (5, .fn 43 [.ptr 3 0, .ptr 2 0]), (6, .ptr 4 0), (7, .ptr 5 0), (8, .opq 6), (53, ii (l.length : Int)), (54, ii ((i : Nat) : Int))]) (M := fun i => [(0, .rwin 1 (packB l).length ((packB l).map u8v)), (1, .rwin 1 cd.length (cd.map u8v)), (2, .cells [.opq 1] 22), (3, .cells [ii ((pos i : Nat) : Int)] 3), (4, .cells [ii (pS l i).2.1.1, ii (pS l i).2.1.2] 75), (5, .cells [ii (pS l i).2.2.1, ii (pS l i).2.2.2] 75), (6, .row 2 i ((l.take i).flatMap Evt.cells) 45)]) (fun _ => True) l.length trivial ?_ ?_
  · intro i hi _ ih
    refine Run.of_wpK (hc w [] none (fun _ h => by cases h)) 1000 _ ?_
    conv => whnf
    rw [decide_eq_true (show ((i : Nat) : Int) < (l.length : Int) by omega)]
    conv => whnf
    have hi20 : i < 20000 := by omega
    have hgi : l.getD i evt0 = l[i] := by simp [List.getD_eq_getElem?_getD, hi]
    have hrd4 := read_spec cd (pS l i).2.1 (pos i) (q1 i) (hr1 i hi) (by omega)
    have hrd5 := read_spec cd (pS l i).2.2 (mid i) (q2 i) (hr2 i hi) (by omega)
    rw [hv1 i hi, ← hu.m i hi] at hrd4
    rw [hv2 i hi, ← hu.ps i hi] at hrd5
    have hsucc : (pS l (i + 1)).2.1 = mLearn (pS l i).2.1 (pGap l i) ∧ (pS l (i + 1)).2.2 = mLearn (pS l i).2.2 (pPlc l i) := ⟨rfl, rfl⟩
    have htk : (l.take i).length = i := by simp; omega
    have hts : (l.take (i + 1)).flatMap Evt.cells = (l.take i).flatMap Evt.cells ++ [ii l[i].tick, ii l[i].id] := by rw [← List.take_append_getElem hi, List.flatMap_append]; rfl
    obtain ⟨p, hp⟩ : ∃ p, pS l i = p := ⟨_, rfl⟩
    rw [hp] at hrd4 hrd5 hsucc
    rw [hp]
    refine Run.callR (vs := [.ptr 3 0, .fn 43 [.ptr 0 0, .ptr 1 0]]) (caps := []) (caps2 := []) hrd4 (ent _ _ Try.func27 (by kernel_rfl) rfl) rfl rfl rfl rfl rfl rfl [.ptr 4 0, .fn 43 [.ptr 3 0, .ptr 2 0]] rfl (rq [(0, 3), (1, 2), (2, 1), (3, 4)]) rfl (fun q hq => by have inv : ∀ q, q < 4 → (rq [(0, 3), (1, 2), (2, 1), (3, 4)]) q < 7 := (by decide); exact inv q hq) (fun q hq j hj hne => by have inj : ∀ i, i < 4 → ∀ j, j < 4 → i ≠ j → (rq [(0, 3), (1, 2), (2, 1), (3, 4)]) i ≠ (rq [(0, 3), (1, 2), (2, 1), (3, 4)]) j := (by decide); exact inj q hq j hj hne) (by decide)
      ⟨⟨by omega, by simp [SObj.sc, SV.scs, SV.sc], ⟨_, rfl, Conv.refl _⟩, .inr (by simp), fun h => by cases h⟩, ⟨by omega, by simp [SObj.sc, SV.scs, SV.sc], ⟨_, rfl, Conv.refl _⟩, .inr (by simp), fun h => by cases h⟩, ⟨by omega, trivial, ⟨_, rfl, Conv.refl _⟩, .inl rfl, fun _ => by simp⟩, ⟨by omega, by simp [SObj.sc, SV.scs, SV.sc], ⟨_, rfl, Conv.refl _⟩, .inr (by simp), fun h => by cases h⟩, trivial⟩ (fun q hq => by have hq2 : q = 0 ∨ q = 1 ∨ q = 3 := (by simpa using hq); rcases hq2 with rfl | rfl | rfl <;> exact ⟨by omega, _, rfl⟩) (.tup [ii (pGap l i), .v (.bool true)]) [(0, .rwin 1 (packB l).length ((packB l).map u8v)), (1, .rwin 1 cd.length (cd.map u8v)), (2, .cells [.opq 1] 22), (3, .cells [ii ((mid i : Nat) : Int)] 3), (4, .cells [ii (mLearn p.2.1 (pGap l i)).1, ii (mLearn p.2.1 (pGap l i)).2] 75), (5, .cells [ii p.2.2.1, ii p.2.2.2] 75), (6, .row 2 i ((l.take i).flatMap Evt.cells) 45)] 7 rfl rfl
      ⟨.inl ⟨rfl, (fun q hq => by have inv : ∀ q ∈ ([0, 1, 3] : List Nat), (rq [(0, 3), (1, 2), (2, 1), (3, 4)]) q ≠ 0 := (by decide); exact inv q hq)⟩, .inl ⟨rfl, (fun q hq => by have inv : ∀ q ∈ ([0, 1, 3] : List Nat), (rq [(0, 3), (1, 2), (2, 1), (3, 4)]) q ≠ 1 := (by decide); exact inv q hq)⟩, .inr ⟨1, _, rfl, rfl, rfl, rfl⟩, .inr ⟨0, _, rfl, rfl, rfl, rfl⟩, .inr ⟨3, _, rfl, rfl, rfl, rfl⟩, .inl ⟨rfl, (fun q hq => by have inv : ∀ q ∈ ([0, 1, 3] : List Nat), (rq [(0, 3), (1, 2), (2, 1), (3, 4)]) q ≠ 5 := (by decide); exact inv q hq)⟩, .inl ⟨rfl, (fun q hq => by have inv : ∀ q ∈ ([0, 1, 3] : List Nat), (rq [(0, 3), (1, 2), (2, 1), (3, 4)]) q ≠ 6 := (by decide); exact inv q hq)⟩, trivial⟩ ?_
    refine Run.of_wpK (hc w [] none (fun _ h => by cases h)) 1000 _ ?_
    conv => whnf
    refine Run.callR (vs := [.ptr 3 0, .fn 43 [.ptr 0 0, .ptr 1 0]]) (caps := []) (caps2 := []) hrd5 (ent _ _ Try.func27 (by kernel_rfl) rfl) rfl rfl rfl rfl rfl rfl [.ptr 5 0, .fn 43 [.ptr 3 0, .ptr 2 0]] rfl (rq [(0, 3), (1, 2), (2, 1), (3, 5)]) rfl (fun q hq => by have inv : ∀ q, q < 4 → (rq [(0, 3), (1, 2), (2, 1), (3, 5)]) q < 7 := (by decide); exact inv q hq) (fun q hq j hj hne => by have inj : ∀ i, i < 4 → ∀ j, j < 4 → i ≠ j → (rq [(0, 3), (1, 2), (2, 1), (3, 5)]) i ≠ (rq [(0, 3), (1, 2), (2, 1), (3, 5)]) j := (by decide); exact inj q hq j hj hne) (by decide)
      ⟨⟨by omega, by simp [SObj.sc, SV.scs, SV.sc], ⟨_, rfl, Conv.refl _⟩, .inr (by simp), fun h => by cases h⟩, ⟨by omega, by simp [SObj.sc, SV.scs, SV.sc], ⟨_, rfl, Conv.refl _⟩, .inr (by simp), fun h => by cases h⟩, ⟨by omega, trivial, ⟨_, rfl, Conv.refl _⟩, .inl rfl, fun _ => by simp⟩, ⟨by omega, by simp [SObj.sc, SV.scs, SV.sc], ⟨_, rfl, Conv.refl _⟩, .inr (by simp), fun h => by cases h⟩, trivial⟩ (fun q hq => by have hq2 : q = 0 ∨ q = 1 ∨ q = 3 := (by simpa using hq); rcases hq2 with rfl | rfl | rfl <;> exact ⟨by omega, _, rfl⟩) (.tup [ii (pPlc l i), .v (.bool true)]) [(0, .rwin 1 (packB l).length ((packB l).map u8v)), (1, .rwin 1 cd.length (cd.map u8v)), (2, .cells [.opq 1] 22), (3, .cells [ii ((pos (i + 1) : Nat) : Int)] 3), (4, .cells [ii (mLearn p.2.1 (pGap l i)).1, ii (mLearn p.2.1 (pGap l i)).2] 75), (5, .cells [ii (mLearn p.2.2 (pPlc l i)).1, ii (mLearn p.2.2 (pPlc l i)).2] 75), (6, .row 2 i ((l.take i).flatMap Evt.cells) 45)] 7 rfl rfl
      ⟨.inl ⟨rfl, (fun q hq => by have inv : ∀ q ∈ ([0, 1, 3] : List Nat), (rq [(0, 3), (1, 2), (2, 1), (3, 5)]) q ≠ 0 := (by decide); exact inv q hq)⟩, .inl ⟨rfl, (fun q hq => by have inv : ∀ q ∈ ([0, 1, 3] : List Nat), (rq [(0, 3), (1, 2), (2, 1), (3, 5)]) q ≠ 1 := (by decide); exact inv q hq)⟩, .inr ⟨1, _, rfl, rfl, rfl, rfl⟩, .inr ⟨0, _, rfl, rfl, rfl, rfl⟩, .inl ⟨rfl, (fun q hq => by have inv : ∀ q ∈ ([0, 1, 3] : List Nat), (rq [(0, 3), (1, 2), (2, 1), (3, 5)]) q ≠ 4 := (by decide); exact inv q hq)⟩, .inr ⟨3, _, rfl, rfl, rfl, rfl⟩, .inl ⟨rfl, (fun q hq => by have inv : ∀ q ∈ ([0, 1, 3] : List Nat), (rq [(0, 3), (1, 2), (2, 1), (3, 5)]) q ≠ 6 := (by decide); exact inv q hq)⟩, trivial⟩ ?_
    refine Run.of_wpK (hc w [] none (fun _ h => by cases h)) 1000 _ ?_
    conv => whnf
    apply joinN (c := ⟨Try.prog, tab, [(26, plainF fun l => match l with | [] => some (.agg [ii 4, ii 1]) | _ => none), (24, FSum), (2000, fun _ _ => none)], 12, Try.f12, [], w, [], none⟩) (R := RR) [(0, .opq 0), (5, .fn 43 [.ptr 3 0, .ptr 2 0]), (6, .ptr 4 0), (7, .ptr 5 0), (8, .opq 6), (53, ii (l.length : Int)), (54, ii ((i : Nat) : Int)), (13, .ptr 7 0), (102, .v (.bool false)), (103, .opq 6), (104, .agg [ii l[i].tick, ii l[i].id])] [(0, .rwin 1 (packB l).length ((packB l).map u8v)), (1, .rwin 1 cd.length (cd.map u8v)), (2, .cells [.opq 1] 22), (3, .cells [ii ((pos (i + 1) : Nat) : Int)] 3), (4, .cells [ii (mLearn p.2.1 (pGap l i)).1, ii (mLearn p.2.1 (pGap l i)).2] 75), (5, .cells [ii (mLearn p.2.2 (pPlc l i)).1, ii (mLearn p.2.2 (pPlc l i)).2] 75), (6, .row 2 i ((l.take i).flatMap Evt.cells) 45), (7, .cells [ii l[i].tick, ii l[i].id] 45)] 8
    · intro hnext
      rcases Nat.eq_zero_or_pos i with hi0 | hi0
      · obtain ⟨hxt, hxi⟩ : pGap l i = l[i].tick ∧ pPlc l i = l[i].id := by
          have h := hu.e0 (by omega)
          rw [← hgi, hi0]; exact h
        rw [decide_eq_false (show ¬ (0 : Int) < ((i : Nat) : Int) by omega)]
        conv => whnf
        refine Run.trim (T' := [(0, .opq 0), (5, .fn 43 [.ptr 3 0, .ptr 2 0]), (6, .ptr 4 0), (7, .ptr 5 0), (8, .opq 6), (53, ii (l.length : Int)), (54, ii ((i : Nat) : Int)), (13, .ptr 7 0), (102, .v (.bool false)), (103, .opq 6), (104, .agg [ii l[i].tick, ii l[i].id])]) (M' := [(0, .rwin 1 (packB l).length ((packB l).map u8v)), (1, .rwin 1 cd.length (cd.map u8v)), (2, .cells [.opq 1] 22), (3, .cells [ii ((pos (i + 1) : Nat) : Int)] 3), (4, .cells [ii (mLearn p.2.1 (pGap l i)).1, ii (mLearn p.2.1 (pGap l i)).2] 75), (5, .cells [ii (mLearn p.2.2 (pPlc l i)).1, ii (mLearn p.2.2 (pPlc l i)).2] 75), (6, .row 2 i ((l.take i).flatMap Evt.cells) 45), (7, .cells [ii l[i].tick, ii l[i].id] 45)]) 8 ⟨⟨rfl, (show 0 < 8 by decide)⟩, ⟨rfl, (show 3 < 8 by decide), (show 2 < 8 by decide), trivial⟩, ⟨rfl, (show 4 < 8 by decide)⟩, ⟨rfl, (show 5 < 8 by decide)⟩, ⟨rfl, (show 6 < 8 by decide)⟩, ⟨rfl, trivial⟩, ⟨rfl, trivial⟩, ⟨rfl, (show 7 < 8 by decide)⟩, ⟨rfl, trivial⟩, ⟨rfl, (show 6 < 8 by decide)⟩, ⟨by rw [← hxt, ← hxi]; rfl, trivial, trivial, trivial⟩, trivial⟩ ⟨⟨rfl, by omega, trivial⟩, ⟨rfl, by omega, trivial⟩, ⟨rfl, by omega, by simp [SObj.sc, SV.scs, SV.sc]⟩, ⟨rfl, by omega, by simp [SObj.sc, SV.scs, SV.sc]⟩, ⟨rfl, by omega, by simp [SObj.sc, SV.scs, SV.sc]⟩, ⟨rfl, by omega, by simp [SObj.sc, SV.scs, SV.sc]⟩, ⟨rfl, by omega, scs_evts _ _⟩, ⟨by rw [← hxt, ← hxi]; rfl, by omega, by simp [SObj.sc, SV.scs, SV.sc]⟩, trivial⟩ (fun p hp => by cases hp) hnext
      · have hw2 : IntKind.i64.wrap (((i : Nat) : Int) - 1) = ((i - 1 : Nat) : Int) := by
          rw [show ((i : Nat) : Int) - 1 = ((i - 1 : Nat) : Int) by omega]; exact W_id (by omega) (by omega)
        have hgp : (l.take i)[i - 1]'(by omega) = l.getD (i - 1) evt0 := by
          rw [List.getElem_take]; simp [List.getD_eq_getElem?_getD, show i - 1 < l.length by omega]
        have hxt := hu.e1 i hi hi0
        rw [hgi] at hxt
        rw [decide_eq_true (show (0 : Int) < ((i : Nat) : Int) by omega)]
        conv => whnf
        refine Run.draw (hc w [] none (fun _ h => by cases h)) 9 ?_
        rw [show upto 0 9 = upto 0 6 ++ (upto 6 2 ++ upto 8 1) from rfl]
        simp only [drawK_app]
        conv => whnf
        rw [hw2]
        refine ⟨by omega, ?_⟩
        conv => whnf
        rw [opF_loadRf (f := Evt.cells) (l := l.take i) (c := ii (l.getD (i - 1) evt0).tick) (i - 1) 0 rfl rfl rfl rfl (fun _ => rfl) (by rw [idx_nat]) (by omega) (by decide) (by rw [hgp]; rfl)]
        conv => whnf
        refine ⟨by kernel_rfl, ?_⟩

        refine Run.of_wpK (hc w [] none (fun _ h => by cases h)) 1000 _ ?_
        conv => whnf
        cases e2 : pGap l i == 0
        case true =>
          have hxi := hu.e2 i hi hi0 (by simpa using e2)
          rw [hgi] at hxi
          conv => whnf
          refine Run.draw (hc w [] none (fun _ h => by cases h)) 10 ?_
          rw [show upto 0 10 = upto 0 6 ++ (upto 6 2 ++ upto 8 2) from rfl]
          simp only [drawK_app]
          conv => whnf
          rw [hw2]
          refine ⟨by omega, ?_⟩
          conv => whnf
          rw [opF_loadRf (f := Evt.cells) (l := l.take i) (c := ii (l.getD (i - 1) evt0).id) (i - 1) 1 rfl rfl rfl rfl (fun _ => rfl) (by rw [idx_nat]) (by omega) (by decide) (by rw [hgp]; rfl)]
          conv => whnf
          refine ⟨by kernel_rfl, ?_⟩

          refine Run.of_wpK (hc w [] none (fun _ h => by cases h)) 1000 _ ?_
          conv => whnf
          refine Run.trim (T' := [(0, .opq 0), (5, .fn 43 [.ptr 3 0, .ptr 2 0]), (6, .ptr 4 0), (7, .ptr 5 0), (8, .opq 6), (53, ii (l.length : Int)), (54, ii ((i : Nat) : Int)), (13, .ptr 7 0), (102, .v (.bool false)), (103, .opq 6), (104, .agg [ii l[i].tick, ii l[i].id])]) (M' := [(0, .rwin 1 (packB l).length ((packB l).map u8v)), (1, .rwin 1 cd.length (cd.map u8v)), (2, .cells [.opq 1] 22), (3, .cells [ii ((pos (i + 1) : Nat) : Int)] 3), (4, .cells [ii (mLearn p.2.1 (pGap l i)).1, ii (mLearn p.2.1 (pGap l i)).2] 75), (5, .cells [ii (mLearn p.2.2 (pPlc l i)).1, ii (mLearn p.2.2 (pPlc l i)).2] 75), (6, .row 2 i ((l.take i).flatMap Evt.cells) 45), (7, .cells [ii l[i].tick, ii l[i].id] 45)]) 8 ⟨⟨rfl, (show 0 < 8 by decide)⟩, ⟨rfl, (show 3 < 8 by decide), (show 2 < 8 by decide), trivial⟩, ⟨rfl, (show 4 < 8 by decide)⟩, ⟨rfl, (show 5 < 8 by decide)⟩, ⟨rfl, (show 6 < 8 by decide)⟩, ⟨rfl, trivial⟩, ⟨rfl, trivial⟩, ⟨rfl, (show 7 < 8 by decide)⟩, ⟨rfl, trivial⟩, ⟨rfl, (show 6 < 8 by decide)⟩, ⟨by rw [← hxt, ← hxi]; rfl, trivial, trivial, trivial⟩, trivial⟩ ⟨⟨rfl, by omega, trivial⟩, ⟨rfl, by omega, trivial⟩, ⟨rfl, by omega, by simp [SObj.sc, SV.scs, SV.sc]⟩, ⟨rfl, by omega, by simp [SObj.sc, SV.scs, SV.sc]⟩, ⟨rfl, by omega, by simp [SObj.sc, SV.scs, SV.sc]⟩, ⟨rfl, by omega, by simp [SObj.sc, SV.scs, SV.sc]⟩, ⟨rfl, by omega, scs_evts _ _⟩, ⟨by rw [← hxt, ← hxi]; rfl, by omega, by simp [SObj.sc, SV.scs, SV.sc]⟩, trivial⟩ (fun p hp => by cases hp) hnext
        case false =>
          have hxi := hu.e3 i hi hi0 (by simpa using e2)
          rw [hgi] at hxi
          conv => whnf
          refine Run.trim (T' := [(0, .opq 0), (5, .fn 43 [.ptr 3 0, .ptr 2 0]), (6, .ptr 4 0), (7, .ptr 5 0), (8, .opq 6), (53, ii (l.length : Int)), (54, ii ((i : Nat) : Int)), (13, .ptr 7 0), (102, .v (.bool false)), (103, .opq 6), (104, .agg [ii l[i].tick, ii l[i].id])]) (M' := [(0, .rwin 1 (packB l).length ((packB l).map u8v)), (1, .rwin 1 cd.length (cd.map u8v)), (2, .cells [.opq 1] 22), (3, .cells [ii ((pos (i + 1) : Nat) : Int)] 3), (4, .cells [ii (mLearn p.2.1 (pGap l i)).1, ii (mLearn p.2.1 (pGap l i)).2] 75), (5, .cells [ii (mLearn p.2.2 (pPlc l i)).1, ii (mLearn p.2.2 (pPlc l i)).2] 75), (6, .row 2 i ((l.take i).flatMap Evt.cells) 45), (7, .cells [ii l[i].tick, ii l[i].id] 45)]) 8 ⟨⟨rfl, (show 0 < 8 by decide)⟩, ⟨rfl, (show 3 < 8 by decide), (show 2 < 8 by decide), trivial⟩, ⟨rfl, (show 4 < 8 by decide)⟩, ⟨rfl, (show 5 < 8 by decide)⟩, ⟨rfl, (show 6 < 8 by decide)⟩, ⟨rfl, trivial⟩, ⟨rfl, trivial⟩, ⟨rfl, (show 7 < 8 by decide)⟩, ⟨rfl, trivial⟩, ⟨rfl, (show 6 < 8 by decide)⟩, ⟨by rw [← hxt, ← hxi]; rfl, trivial, trivial, trivial⟩, trivial⟩ ⟨⟨rfl, by omega, trivial⟩, ⟨rfl, by omega, trivial⟩, ⟨rfl, by omega, by simp [SObj.sc, SV.scs, SV.sc]⟩, ⟨rfl, by omega, by simp [SObj.sc, SV.scs, SV.sc]⟩, ⟨rfl, by omega, by simp [SObj.sc, SV.scs, SV.sc]⟩, ⟨rfl, by omega, by simp [SObj.sc, SV.scs, SV.sc]⟩, ⟨rfl, by omega, scs_evts _ _⟩, ⟨by rw [← hxt, ← hxi]; rfl, by omega, by simp [SObj.sc, SV.scs, SV.sc]⟩, trivial⟩ (fun p hp => by cases hp) hnext
    · refine Run.callE (g := 22) (vs := [.opq 6, .agg [ii l[i].tick, ii l[i].id]]) (caps := []) (ii 0) (fun ρ w1 hW => by
        have h8 := hW.rowsAtR (i := 6) rfl (by decide)
        rw [evts_v, concs_v] at h8
        refine follows_run _ (l.take i) l[i] (hs.ok i hi) (by omega) (fun h => ?_) w1 (by rw [htk]; exact h8)
        have h9 := hs.lt i hi (by omega)
        have e3 : (l.take i)[(l.take i).length - 1]'(by omega) = l[i - 1]'(by omega) := by simp only [List.getElem_take, htk]
        rw [e3]; exact h9) (ent _ _ Try.func22 (by kernel_rfl) rfl) rfl rfl rfl rfl rfl rfl rfl trivial ?_
      refine Run.of_wpK (hc w [] none (fun _ h => by cases h)) 1000 _ ?_
      conv => whnf
      refine ⟨by omega, ?_⟩
      conv => whnf
      refine Run.trimQ (T' := [(0, .opq 0), (5, .fn 43 [.ptr 3 0, .ptr 2 0]), (6, .ptr 4 0), (7, .ptr 5 0), (8, .opq 6), (53, ii (l.length : Int)), (54, ii ((i + 1 : Nat) : Int))]) (M' := [(0, .rwin 1 (packB l).length ((packB l).map u8v)), (1, .rwin 1 cd.length (cd.map u8v)), (2, .cells [.opq 1] 22), (3, .cells [ii ((pos (i + 1) : Nat) : Int)] 3), (4, .cells [ii (pS l (i + 1)).2.1.1, ii (pS l (i + 1)).2.1.2] 75), (5, .cells [ii (pS l (i + 1)).2.2.1, ii (pS l (i + 1)).2.2.2] 75), (6, .row 2 (i + 1) ((l.take (i + 1)).flatMap Evt.cells) 45)]) (rq [(6, 9), (9, 6)]) 7 ?_ ⟨⟨rfl, (show 0 < 7 by decide)⟩, ⟨rfl, (show 3 < 7 by decide), (show 2 < 7 by decide), trivial⟩, ⟨rfl, (show 4 < 7 by decide)⟩, ⟨rfl, (show 5 < 7 by decide)⟩, ⟨rfl, (show 6 < 7 by decide)⟩, ⟨rfl, trivial⟩, ⟨congrArg some (congrArg ii (wrap_succ (by omega))), trivial⟩, trivial⟩ ⟨⟨rfl, by omega, trivial⟩, ⟨rfl, by omega, trivial⟩, ⟨rfl, by omega, by simp [SObj.sc, SV.scs, SV.sc]⟩, ⟨rfl, by omega, by simp [SObj.sc, SV.scs, SV.sc]⟩, ⟨by rw [hsucc.1]; rfl, by omega, by simp [SObj.sc, SV.scs, SV.sc]⟩, ⟨by rw [hsucc.2]; rfl, by omega, by simp [SObj.sc, SV.scs, SV.sc]⟩, ⟨by rw [oren_fix (S := fun _ => False) (fun _ hi => hi.elim) (o := .row 2 (i + 1) ((l.take (i + 1)).flatMap Evt.cells) 45) (scs_evts _ _), hts]; rfl, by omega, scs_evts _ _⟩, trivial⟩ (fun p hp => by cases hp) (ih trivial)
      intro i hi j hj hne he
      have inv : ∀ i, i < 7 → rq [(6, 9), (9, 6)] (rq [(6, 9), (9, 6)] i) = i := by decide
      exact hne (by rw [← inv i hi, he, inv j hj])

  · intro _
    refine Run.of_wpK (hc w [] none (fun _ h => by cases h)) 1000 _ ?_
    conv => whnf
    rw [decide_eq_false (show ¬ ((l.length : Nat) : Int) < (l.length : Int) by omega)]
    conv => whnf
    rw [decide_eq_false (show ¬ (65536 : Int) < ((l.length : Nat) : Int) by omega)]
    conv => whnf
    refine Run.callO (vs := [.opq 6]) (caps := []) (fun x => x) (fun x => x) (fun ρ w1 hW => by
      have h8 := hW.rowsAtR (i := 6) rfl (by decide)
      rw [List.take_length, evts_v, concs_v] at h8
      exact pack_run _ l hl w1 h8) (ent _ _ Try.func23 (by kernel_rfl) rfl) rfl rfl rfl rfl rfl rfl rfl (fun _ _ => rfl) (fun _ _ h => h) ?_
    rw [show ((packB l).map u8v).map SV.v = (packB l).map fun x => u8s x from by rw [List.map_map]; rfl]
    refine Run.of_wpK (hc w [] none (fun _ h => by cases h)) 1000 _ ?_
    conv => whnf
    refine Run.callE (g := 28) (vs := [.opq 7, .opq 0]) (caps := []) (.v (.bool true)) (fun ρ w1 hW => by
      have h8 := hW.rowsAtR (i := 7) rfl (by decide)
      rw [concs_u8] at h8
      exact equalB_run _ _ (packB l) (by omega) w1 h8 (hW.rowsAt (i := 0) rfl)) (ent _ _ Try.func28 (by kernel_rfl) rfl) rfl rfl rfl rfl rfl rfl rfl trivial ?_
    refine Run.of_wpK (hc w [] none (fun _ h => by cases h)) 1000 _ ?_
    conv => whnf
    rw [← hRR]
    refine ⟨fun ρ w' hW _ => ⟨(SV.opq 6).conc ρ, rfl, hW.toExt, ?_⟩⟩
    have h8 := hW.ownsNew (i := 6) rfl (by decide)
    rw [List.take_length, evts_v, concs_v] at h8
    exact h8
set_option maxHeartbeats 4000000
/-- A mark of a pattern. -/
structure Pm where
  inp : Int
  off : Int
deriving DecidableEq
def Pm.vals (x : Pm) : List Value := [.int .i64 x.inp, .int .i64 x.off]
theorem Pm.vlen (x : Pm) : x.vals.length = 2 := rfl
def pm0 : Pm := ⟨0, 0⟩
def idxF (f : Nat → Bool) : Nat → Nat → Int
  | 0, _ => -1
  | q + 1, k => if f k = true then (k : Int) else idxF f q (k + 1)
theorem idxF_go {f : Nat → Bool} {N : Nat} : ∀ i, i ≤ N → (∀ j, j < i → f j = false) → idxF f N 0 = idxF f (N - i) i
  | 0, _, _ => rfl
  | i + 1, hi, h => by
    rw [idxF_go i (by omega) fun j hj => h j (by omega), show N - i = (N - (i + 1)) + 1 by omega]
    show (if f i = true then (i : Int) else idxF f (N - (i + 1)) (i + 1)) = _
    rw [if_neg (by rw [h i (by omega)]; decide)]
def pmEq (l : List Pm) (x : Pm) (i : Nat) : Bool := x.inp == (l.getD i pm0).inp && (x.off == (l.getD i pm0).off && true)
def idxP (l : List Pm) (x : Pm) : Int := idxF (pmEq l x) l.length 0
theorem idxP_at {l : List Pm} {x : Pm} {i : Nat} (hi : i < l.length) (h : ∀ j, j < i → pmEq l x j = false) (hf : pmEq l x i = true) : idxP l x = (i : Int) := by
  unfold idxP
  rw [idxF_go i (by omega) h, show l.length - i = (l.length - (i + 1)) + 1 by omega]
  show (if pmEq l x i = true then (i : Int) else _) = _
  rw [if_pos hf]
theorem idxP_end {l : List Pm} {x : Pm} (h : ∀ j, j < l.length → pmEq l x j = false) : idxP l x = -1 := by
  unfold idxP
  rw [idxF_go l.length (Nat.le_refl _) h, Nat.sub_self]; rfl
theorem indexP_run (v : Value) (l : List Pm) (x : Pm) (hl : l.length ≤ 100000000) (w : World) (hr : RowsAt w v 2 l.length (l.flatMap Pm.vals)) : Calls Try.prog 46 #[v, .agg x.vals.toArray] w fun e w' => e = .returned (.int .i64 (idxP l x)) ∧ Ext w w' := by
  obtain ⟨xi, xo⟩ := x
  have hc : ∀ w L' rd, (∀ p, rd = some p → p ∈ L') → Cx.ok ⟨Try.prog, tab, [], 46, Try.f46, [], w, L', rd⟩ := fun w L' rd h => ⟨tab_ok, trivial, Try.func46, mixed, h⟩
  have hrows : AllP (fun x : Value × Nat × Nat × List Value => RowsAt w x.1 x.2.1 x.2.2.1 x.2.2.2) [(v, 2, l.length, l.flatMap Pm.vals)] := ⟨hr, trivial⟩
  refine Run.startW (tab := tab) (pf := []) (cuts := []) Try.func46 rfl _ hrows [.opq 0, .agg [ii xi, ii xo]] [v, .agg (Pm.vals ⟨xi, xo⟩).toArray] [(0, .rwin 2 l.length (l.flatMap Pm.vals))] 1 rfl rfl (by show [(SV.opq 0).conc _, _] = _; rw [conc_rows hrows (k := 0) rfl]; rfl) (by simp [SV.scs, SV.sc]) rfl (Run.of_wpK (hc w [] none (fun _ h => by cases h)) 100 _ ?_)
  conv => whnf
  refine Run.trim (T' := [(0, .opq 0), (3, .ptr 1 0), (7, ii (l.length : Int)), (8, ii (((0 : Nat) : Nat) : Int))]) (M' := [(0, .rwin 2 l.length (l.flatMap Pm.vals)), (1, .cells [ii xi, ii xo] 36)]) 2 ⟨⟨rfl, (show 0 < 2 by decide)⟩, ⟨rfl, (show 1 < 2 by decide)⟩, ⟨rfl, trivial⟩, ⟨rfl, trivial⟩, trivial⟩ ⟨⟨rfl, by omega, trivial⟩, ⟨rfl, by omega, by simp [SObj.sc, SV.scs, SV.sc]⟩, trivial⟩ (fun p hp => by cases hp) ?_
  refine Run.upToJ (T := fun i => [(0, .opq 0), (3, .ptr 1 0), (7, ii (l.length : Int)), (8, ii ((i : Nat) : Int))]) (M := fun i => [(0, .rwin 2 l.length (l.flatMap Pm.vals)), (1, .cells [ii xi, ii xo] 36)]) (fun i => ∀ j, j < i → pmEq l ⟨xi, xo⟩ j = false) (l.length) (fun j hj => by omega) ?_ ?_
  · intro i hi hJ ih
    refine Run.of_wpK (hc w [] none (fun _ h => by cases h)) 1000 _ ?_
    conv => whnf
    rw [decide_eq_true (show ((i : Nat) : Int) < (l.length : Int) by omega)]
    conv => whnf
    refine Run.draw (hc w [] none (fun _ h => by cases h)) 5 ?_
    rw [show upto 0 5 = upto 0 4 ++ upto 4 1 from rfl]
    simp only [drawK_app]
    conv => whnf
    refine ⟨by omega, ?_⟩
    conv => whnf
    rw [opF_loadW (f := Pm.vals) (l := l) i rfl rfl rfl rfl rfl Pm.vlen (by rw [idx_nat]) hi]
    conv => whnf
    refine ⟨by kernel_rfl, ?_⟩
    refine Run.of_wpK (hc w [] none (fun _ h => by cases h)) 1000 _ ?_
    conv => whnf
    have hgi : l.getD i pm0 = l[i] := by simp [List.getD_eq_getElem?_getD, hi]
    have hpe : pmEq l ⟨xi, xo⟩ i = (xi == l[i].inp && (xo == l[i].off && true)) := by unfold pmEq; rw [hgi]
    cases e : (xi == l[i].inp && (xo == l[i].off && true))
    case true =>
      conv => whnf
      exact ⟨fun ρ w' hW _ => ⟨by rw [idxP_at hi hJ (hpe.trans e)]; rfl, hW.toExt⟩⟩
    case false =>
      conv => whnf
      exact Run.trim (T' := [(0, .opq 0), (3, .ptr 1 0), (7, ii (l.length : Int)), (8, ii ((i + 1 : Nat) : Int))]) (M' := [(0, .rwin 2 l.length (l.flatMap Pm.vals)), (1, .cells [ii xi, ii xo] 36)]) 2 ⟨⟨rfl, (show 0 < 2 by decide)⟩, ⟨rfl, (show 1 < 2 by decide)⟩, ⟨rfl, trivial⟩, ⟨congrArg some (congrArg ii (wrap_succ (by omega))), trivial⟩, trivial⟩ ⟨⟨rfl, by omega, trivial⟩, ⟨rfl, by omega, by simp [SObj.sc, SV.scs, SV.sc]⟩, trivial⟩ (fun p hp => by cases hp) (ih fun j hj => by
        rcases Nat.lt_or_ge j i with h | h
        · exact hJ j h
        · obtain rfl : j = i := by omega
          exact hpe.trans e)
  · intro hJ
    refine Run.of_wpK (hc w [] none (fun _ h => by cases h)) 1000 _ ?_
    conv => whnf
    rw [decide_eq_false (show ¬ ((l.length : Nat) : Int) < (l.length : Int) by omega)]
    conv => whnf
    exact ⟨fun ρ w' hW _ => ⟨by rw [idxP_end hJ]; rfl, hW.toExt⟩⟩
theorem contains_run (v : Value) (l : List Pm) (x : Pm) (hl : l.length ≤ 100000000) (w : World) (hr : RowsAt w v 2 l.length (l.flatMap Pm.vals)) : Calls Try.prog 30 #[v, .agg x.vals.toArray] w fun e w' => e = .returned (.bool (decide (0 ≤ idxP l x))) ∧ Ext w w' := by
  obtain ⟨k, hk⟩ : ∃ k, idxP l x = k := ⟨_, rfl⟩
  have hix := fun v => indexP_run v l x hl
  rw [hk] at hix
  rw [hk]
  obtain ⟨xi, xo⟩ := x
  have hc : ∀ w L' rd, (∀ p, rd = some p → p ∈ L') → Cx.ok ⟨Try.prog, tab, [], 30, Try.f30, [], w, L', rd⟩ := fun w L' rd h => ⟨tab_ok, trivial, Try.func30, mixed, h⟩
  have hrows : AllP (fun x : Value × Nat × Nat × List Value => RowsAt w x.1 x.2.1 x.2.2.1 x.2.2.2) [(v, 2, l.length, l.flatMap Pm.vals)] := ⟨hr, trivial⟩
  refine Run.startW (tab := tab) (pf := []) (cuts := []) Try.func30 rfl _ hrows [.opq 0, .agg [ii xi, ii xo]] [v, .agg (Pm.vals ⟨xi, xo⟩).toArray] [(0, .rwin 2 l.length (l.flatMap Pm.vals))] 1 rfl rfl (by show [(SV.opq 0).conc _, _] = _; rw [conc_rows hrows (k := 0) rfl]; rfl) (by simp [SV.scs, SV.sc]) rfl (Run.of_wpK (hc w [] none (fun _ h => by cases h)) 100 _ ?_)
  conv => whnf
  refine Run.callE (g := 46) (vs := [.opq 0, .agg [ii xi, ii xo]]) (caps := []) (ii k) (fun ρ w1 hW => hix _ w1 (hW.rowsAt (i := 0) rfl)) (ent _ _ Try.func46 (by kernel_rfl) rfl) rfl rfl rfl rfl rfl rfl rfl trivial ?_
  refine Run.of_wpK (hc w [] none (fun _ h => by cases h)) 1000 _ ?_
  conv => whnf
  exact ⟨fun ρ w' hW _ => ⟨rfl, hW.toExt⟩⟩
def pmof : List Value → Option (List Pm)
  | [] => some []
  | .int .i64 x :: .int .i64 y :: l => match pmof l with
    | some r => some (⟨x, y⟩ :: r)
    | none => none
  | _ => none
theorem pmof_map : ∀ l : List Pm, pmof (l.flatMap Pm.vals) = some l
  | [] => rfl
  | x :: l => by
    show (match pmof (l.flatMap Pm.vals) with | some r => some ((⟨x.inp, x.off⟩ : Pm) :: r) | none => none) = _
    rw [pmof_map l]
theorem pmof_eq : ∀ (n : Nat) {vs : List Value} {l : List Pm}, vs.length ≤ n → pmof vs = some l → vs = l.flatMap Pm.vals := by
  intro n
  induction n with
  | zero =>
    intro vs l hn h
    obtain rfl : vs = [] := List.length_eq_zero_iff.1 (by omega)
    obtain rfl := Option.some.inj h; rfl
  | succ n ih =>
    intro vs l hn h
    unfold pmof at h
    split at h
    · obtain rfl := Option.some.inj h; rfl
    · rename_i x y l'
      split at h
      · rename_i r hr
        obtain rfl := Option.some.inj h
        rw [ih (by simp at hn; omega) hr]; rfl
      · cases h
    · cases h
def FCon : Mem → List SV → Option (List Nat × SV) := fun M args => match args with
  | [.opq i, .agg [.v (.int .i64 a), .v (.int .i64 b)]] => match M i with
    | some (.rwin e m vs) => match e with
      | 2 => match pmof vs with
        | some l => match Nat.ble m 100000000 with
          | true => some ([i], .v (.bool (decide (0 ≤ idxP l ⟨a, b⟩))))
          | false => none
        | none => none
      | _ => none
    | _ => none
  | _ => none
theorem FCon_some {M : Mem} {args : List SV} {bs : List Nat} {v : SV} (h : FCon M args = some (bs, v)) : ∃ i m l x, args = [.opq i, .agg [ii x.inp, ii x.off]] ∧ M i = some (.rwin 2 m (List.flatMap Pm.vals l)) ∧ m ≤ 100000000 ∧ bs = [i] ∧ v = .v (.bool (decide (0 ≤ idxP l x))) := by
  unfold FCon at h
  split at h
  · rename_i i a b
    split at h
    · rename_i e m vs hM
      split at h
      · split at h
        · rename_i l hl
          split at h
          · rename_i hm
            obtain ⟨rfl, rfl⟩ := Prod.mk.inj (Option.some.inj h)
            exact ⟨i, m, l, ⟨a, b⟩, rfl, by rw [hM, pmof_eq _ (Nat.le_refl _) hl], Nat.le_of_ble_eq_true hm, rfl, rfl⟩
          · cases h
        · cases h
      · cases h
    · cases h
  · cases h
theorem FCon_win {M : Mem} {i m : Nat} {l : List Pm} (x : Pm) (h : M i = some (.rwin 2 m (l.flatMap Pm.vals))) (hm : m ≤ 100000000) : FCon M [.opq i, .agg [ii x.inp, ii x.off]] = some ([i], .v (.bool (decide (0 ≤ idxP l x)))) := by
  unfold FCon
  simp only [h, pmof_map, Nat.ble_eq_true_of_le hm]
theorem contains_pure : Pure Try.prog 30 FCon where
  ent := ent _ _ Try.func30 (by kernel_rfl) rfl
  sc S M args bs v hv _ := by
    obtain ⟨_, _, _, _, _, _, _, _, rfl⟩ := FCon_some hv
    trivial
  cong M M' args bs v hv hb := by
    obtain ⟨i, m, l, x, rfl, h1, h2, rfl, rfl⟩ := FCon_some hv
    exact FCon_win x (by rw [hb i (by simp)]; exact h1) h2
  run w0 L ρ M S args bs v w hW hv := by
    obtain ⟨i, m, l, x, rfl, h1, h2, rfl, rfl⟩ := FCon_some hv
    have h8 := hW.rowsAt h1
    have hm : l.length = m := by
      have := h8.1
      rw [flat_length (e := 2) (fun _ => rfl)] at this
      omega
    subst hm
    exact contains_run _ l x h2 w h8
def Syn.cells (s : Syn) : List SV := [ii s.fr, ii s.to, ii s.w, ii s.d]
theorem scs_syns2 (S : Nat → Prop) (l : List Syn) : SV.scs S (l.flatMap Syn.cells) := by
  induction l with
  | nil => trivial
  | cons a l ih => exact ⟨trivial, trivial, trivial, trivial, ih⟩
theorem fix_syn {r : Nat → Nat} (m : Nat) (l : List Syn) (t : TypeId) : (SObj.row 4 m (l.flatMap Syn.cells) t).ren r = .row 4 m (l.flatMap Syn.cells) t := oren_fix (S := fun _ => False) (fun _ hi => hi.elim) (o := .row 4 m (l.flatMap Syn.cells) t) (scs_syns2 _ _)
theorem scs_prms (S : Nat → Prop) (l : List Prm) : SV.scs S (l.flatMap Prm.cells) := by
  induction l with
  | nil => trivial
  | cons a l ih => exact ⟨trivial, trivial, trivial, trivial, trivial, trivial, trivial, trivial, ih⟩
theorem fix_prm {r : Nat → Nat} (m : Nat) (l : List Prm) (t : TypeId) : (SObj.row 8 m (l.flatMap Prm.cells) t).ren r = .row 8 m (l.flatMap Prm.cells) t := oren_fix (S := fun _ => False) (fun _ hi => hi.elim) (o := .row 8 m (l.flatMap Prm.cells) t) (scs_prms _ _)
/-- A synapse is added. -/
theorem join_spec (inp fr to wt dl : Int) (S : List Syn) (hS : S.length ≤ 100000) : BSpec Try.prog 47 [.ptr 0 0, ii fr, ii to, ii wt, ii dl] [(0, .cells [.opq 1, ii inp, .opq 2] 82), (2, .row 4 S.length (S.flatMap Syn.cells) 126)] 3 [0, 2] (.tup []) [(0, .cells [.opq 1, ii inp, .opq 3] 82), (3, .row 4 (S ++ [(⟨fr, to, wt, dl⟩ : Syn)]).length ((S ++ [(⟨fr, to, wt, dl⟩ : Syn)]).flatMap Syn.cells) 126)] 4 := by
  have hc : ∀ w L' rd, (∀ p, rd = some p → p ∈ L') → Cx.ok ⟨Try.prog, tab, [(2000, fun _ _ => none)], 47, Try.f47, [], w, L', rd⟩ := fun w L' rd h => ⟨tab_ok, ⟨trivial, trivial⟩, Try.func47, mixed, h⟩
  refine BSpec.start (tab := tab) (pf := [(2000, fun _ _ => none)]) (cuts := []) Try.func47 rfl ⟨(show 0 < 3 by decide), trivial, trivial, trivial, trivial, trivial⟩ rfl fun w L0 plp hL hLB hcov => Run.of_wpK (hc w L0 none (fun _ h => by cases h)) 100 _ ?_
  generalize hRR : SpecR _ _ _ _ _ _ = RR
  conv => whnf
  refine ⟨by omega, ?_⟩
  conv => whnf
  rw [← hRR]
  exact SpecR.intro 5 (by decide) (fun p hp => by have := hLB p hp; omega) (by decide) hcov rfl rfl trivial ⟨⟨rfl, by omega, by simp [SObj.sc, SV.scs, SV.sc]⟩, ⟨by rw [fix_syn, List.length_append, List.flatMap_append]; rfl, by omega, scs_syns2 _ _⟩, trivial⟩
/-- A synapse from an input is added. -/
theorem feed_spec (inp k to wt dl : Int) (S : List Syn) (hS : S.length ≤ 100000) : BSpec Try.prog 31 [.ptr 0 0, ii k, ii to, ii wt, ii dl] [(0, .cells [.opq 1, ii inp, .opq 2] 82), (2, .row 4 S.length (S.flatMap Syn.cells) 126)] 3 [0, 2] (.tup []) [(0, .cells [.opq 1, ii inp, .opq 3] 82), (3, .row 4 (S ++ [(⟨W (-1 - k), to, wt, dl⟩ : Syn)]).length ((S ++ [(⟨W (-1 - k), to, wt, dl⟩ : Syn)]).flatMap Syn.cells) 126)] 4 := by
  have hc : ∀ w L' rd, (∀ p, rd = some p → p ∈ L') → Cx.ok ⟨Try.prog, tab, [], 31, Try.f31, [], w, L', rd⟩ := fun w L' rd h => ⟨tab_ok, trivial, Try.func31, mixed, h⟩
  refine BSpec.start (tab := tab) (pf := []) (cuts := []) Try.func31 rfl ⟨(show 0 < 3 by decide), trivial, trivial, trivial, trivial, trivial⟩ rfl fun w L0 plp hL hLB hcov => Run.of_wpK (hc w L0 none (fun _ h => by cases h)) 100 _ ?_
  generalize hRR : SpecR _ _ _ _ _ _ = RR
  conv => whnf
  refine Run.callR (vs := [.ptr 0 0, ii (W (-1 - k)), ii to, ii wt, ii dl]) (caps := []) (caps2 := []) (join_spec inp (W (-1 - k)) to wt dl S hS) (ent _ _ Try.func47 (by kernel_rfl) rfl) rfl rfl rfl rfl rfl rfl [.ptr 0 0, ii (W (-1 - k)), ii to, ii wt, ii dl] rfl (rq []) rfl (fun q hq => by have inv : ∀ q, q < 3 → (rq []) q < 4 := (by decide); exact inv q hq) (fun q hq j hj hne => by have inj : ∀ i, i < 3 → ∀ j, j < 3 → i ≠ j → (rq []) i ≠ (rq []) j := (by decide); exact inj q hq j hj hne) (by decide)
    ⟨⟨by omega, by simp [SObj.sc, SV.scs, SV.sc], ⟨_, rfl, Conv.refl _⟩, .inr (by simp), fun h => by cases h⟩, ⟨by omega, scs_syns2 _ _, ⟨_, rfl, by rw [fix_syn]; exact Conv.refl _⟩, .inr (by simp), fun h => by cases h⟩, trivial⟩ (fun q hq => by have hq2 : q = 0 ∨ q = 2 := (by simpa using hq); rcases hq2 with rfl | rfl <;> exact ⟨by omega, _, rfl⟩) (.tup []) [(3, .pin plp), (0, .cells [.opq 1, ii inp, .opq 4] 82), (4, .row 4 (S ++ [(⟨W (-1 - k), to, wt, dl⟩ : Syn)]).length ((S ++ [(⟨W (-1 - k), to, wt, dl⟩ : Syn)]).flatMap Syn.cells) 126)] 5 rfl rfl
    ⟨.inl ⟨rfl, (fun q hq => by have inv : ∀ q ∈ ([0, 2] : List Nat), (rq []) q ≠ 3 := (by decide); exact inv q hq)⟩, .inr ⟨0, _, rfl, rfl, rfl, rfl⟩, .inr ⟨3, _, rfl, rfl, (fix_syn _ _ _).symm, rfl⟩, trivial⟩ ?_
  refine Run.of_wpK (hc w L0 none (fun _ h => by cases h)) 1000 _ ?_
  conv => whnf
  rw [← hRR]
  exact SpecR.intro 4 (by decide) (fun p hp => by have := hLB p hp; omega) (by decide) hcov rfl rfl trivial ⟨⟨rfl, by omega, by simp [SObj.sc, SV.scs, SV.sc]⟩, ⟨congrArg some (fix_syn _ _ _).symm, by omega, scs_syns2 _ _⟩, trivial⟩
theorem gate_pure : Pure Try.prog 33 (plainF fun l => match l with | [] => some (.agg (Prm.cells ⟨2, 256, 0, 0, 0, 0, 0, 0⟩)) | _ => none) := PureV.lift {
  ent := ent _ _ Try.func33 (by kernel_rfl) rfl
  sc := fun S args v hv _ => by
    split at hv
    · obtain rfl := Option.some.inj hv; exact ⟨trivial, trivial, trivial, trivial, trivial, trivial, trivial, trivial, trivial⟩
    · cases hv
  run := fun ρ args v w hv => by
    split at hv
    · obtain rfl := Option.some.inj hv
      refine Run.start0 (tab := tab) (pf := []) (cuts := []) mixed tab_ok trivial Try.func33 rfl [] 100 (by simp [SV.scs]) rfl ?_
      conv => whnf
      exact ⟨fun ρ w' hW _ => ⟨rfl, hW.toExt⟩⟩
    · cases hv }
/-- A function that adds neurons is made. -/
theorem grow_spec (p : Prm) : BSpec Try.prog 32 [.ptr 0 0, .agg p.cells] [] 1 [] (.fn 48 [.ptr 2 0, .ptr 1 0]) [(1, .cells [.ptr 0 0] 106), (2, .cells p.cells 88)] 3 := by
  have hc : ∀ w L' rd, (∀ p, rd = some p → p ∈ L') → Cx.ok ⟨Try.prog, tab, [], 32, Try.f32, [], w, L', rd⟩ := fun w L' rd h => ⟨tab_ok, trivial, Try.func32, mixed, h⟩
  refine BSpec.start (tab := tab) (pf := []) (cuts := []) Try.func32 rfl ⟨(show 0 < 1 by decide), ⟨trivial, trivial, trivial, trivial, trivial, trivial, trivial, trivial, trivial⟩, trivial⟩ rfl fun w L0 plp hL hLB hcov => Run.of_wpK (hc w L0 none (fun _ h => by cases h)) 100 _ ?_
  generalize hRR : SpecR _ _ _ _ _ _ = RR
  conv => whnf
  rw [← hRR]
  exact SpecR.intro 2 (by decide) hLB (by decide) hcov rfl rfl ⟨(show 2 < 3 by decide), (show 1 < 3 by decide), trivial⟩ ⟨⟨rfl, by omega, by simp [SObj.sc, SV.scs, SV.sc]⟩, ⟨rfl, by omega, ⟨trivial, trivial, trivial, trivial, trivial, trivial, trivial, trivial, trivial⟩⟩, trivial⟩
/-- A neuron is added. -/
theorem grow1_spec (inp h : Int) (p : Prm) (N : List Prm) (hN : N.length ≤ 100000) : BSpec Try.prog 48 [.slc 3 0 1 1, .ptr 5 0, .ptr 4 0] [(0, .cells [.opq 1, ii inp, .opq 2] 82), (1, .row 8 N.length (N.flatMap Prm.cells) 88), (3, .cells [ii h] 3), (4, .cells [.ptr 0 0] 106), (5, .cells p.cells 88)] 6 [0, 1, 3, 4, 5] (.tup []) [(0, .cells [.opq 6, ii inp, .opq 2] 82), (6, .row 8 (N ++ [(⟨p.lk, p.leak, p.bias, h, p.rk, p.reset, p.floor, p.rest⟩ : Prm)]).length ((N ++ [(⟨p.lk, p.leak, p.bias, h, p.rk, p.reset, p.floor, p.rest⟩ : Prm)]).flatMap Prm.cells) 88), (3, .cells [ii h] 3), (4, .cells [.ptr 0 0] 106), (5, .cells p.cells 88)] 7 := by
  have hc : ∀ w L' rd, (∀ p, rd = some p → p ∈ L') → Cx.ok ⟨Try.prog, tab, [(2000, fun _ _ => none)], 48, Try.f48, [], w, L', rd⟩ := fun w L' rd h => ⟨tab_ok, ⟨trivial, trivial⟩, Try.func48, mixed, h⟩
  refine BSpec.start (tab := tab) (pf := [(2000, fun _ _ => none)]) (cuts := []) Try.func48 rfl ⟨(show 3 < 6 by decide), (show 5 < 6 by decide), (show 4 < 6 by decide), trivial⟩ rfl fun w L0 plp hL hLB hcov => Run.of_wpK (hc w L0 none (fun _ h => by cases h)) 100 _ ?_
  generalize hRR : SpecR _ _ _ _ _ _ = RR
  conv => whnf
  refine Run.of_wpK (hc w L0 none (fun _ h => by cases h)) 1000 _ ?_
  conv => whnf
  refine ⟨by decide, ?_⟩
  conv => whnf
  refine Run.draw (hc w L0 none (fun _ h => by cases h)) 9 ?_
  conv => whnf
  refine ⟨by omega, ?_⟩
  conv => whnf
  refine ⟨by kernel_rfl, ?_⟩
  refine Run.of_wpK (hc w L0 none (fun _ h => by cases h)) 1000 _ ?_
  conv => whnf
  refine Run.of_wpK (hc w L0 none (fun _ h => by cases h)) 1000 _ ?_
  conv => whnf
  rw [← hRR]
  exact SpecR.intro 16 (by decide) (fun p hp => by have := hLB p hp; omega) (by decide) hcov rfl rfl trivial ⟨⟨rfl, by omega, by simp [SObj.sc, SV.scs, SV.sc]⟩, ⟨by rw [fix_prm, List.length_append, List.flatMap_append]; rfl, by omega, scs_prms _ _⟩, ⟨rfl, by omega, by simp [SObj.sc, SV.scs, SV.sc]⟩, ⟨rfl, by omega, by simp [SObj.sc, SV.scs, SV.sc]⟩, ⟨rfl, by omega, ⟨trivial, trivial, trivial, trivial, trivial, trivial, trivial, trivial, trivial⟩⟩, trivial⟩
/-- A pattern without error. -/
structure PatOK (inp : Int) (l : List Pm) (miss : Int) : Prop where
  i0 : 1 ≤ inp
  i1 : inp ≤ 256
  l0 : 0 < l.length
  l1 : l.length ≤ 64
  mi : ∀ i (h : i < l.length), 0 ≤ l[i].inp ∧ l[i].inp ≤ inp - 1
  mo : ∀ i (h : i < l.length), 0 ≤ l[i].off ∧ l[i].off ≤ 15
  nd : ∀ i (h : i < l.length), idxP (l.take i) l[i] = -1
  m0 : 0 ≤ miss
  m1 : miss ≤ (l.length : Int) - 1
def patY (m : Pm) : Syn := ⟨W (-1 - m.inp), 0, 1, W (16 - m.off)⟩
def patP (l : List Pm) (miss : Int) : Prm := ⟨2, 256, 0, W ((l.length : Int) - miss), 0, 0, 0, 0⟩
/-- The network of a pattern. -/
theorem pattern_spec (inp : Int) (l : List Pm) (miss : Int) (h : PatOK inp l miss) : BSpec Try.prog 15 [ii inp, .opq 0, ii miss] [(0, .rwin 2 l.length (l.flatMap Pm.vals))] 1 [] (.tup [.agg [.opq 1, ii inp, .opq 2], ii 0]) [(1, .row 8 [patP l miss].length ([patP l miss].flatMap Prm.cells) 88), (2, .row 4 (l.map patY).length ((l.map patY).flatMap Syn.cells) 126)] 3 := by
  have hl0 := h.l0
  have hl1 := h.l1
  have h0 := h.i0
  have h1 := h.i1
  have hm0 := h.m0
  have hm1 := h.m1
  have e1 : wi inp 1 256 = true := wi_iff.2 ⟨h.i0, h.i1⟩
  have e2 : ∀ i (hi : i < l.length), wi l[i].inp 0 (IntKind.i64.wrap (inp - 1)) = true := fun i hi => by
    rw [show IntKind.i64.wrap (inp - 1) = inp - 1 from W_id (by omega) (by omega)]
    exact wi_iff.2 (h.mi i hi)
  have e3 : ∀ i (hi : i < l.length), wi l[i].off 0 15 = true := fun i hi => wi_iff.2 (h.mo i hi)
  have e4 : wi miss 0 (IntKind.i64.wrap ((l.length : Int) - 1)) = true := by
    rw [show IntKind.i64.wrap ((l.length : Int) - 1) = (l.length : Int) - 1 from W_id (by omega) (by omega)]
    exact wi_iff.2 ⟨h.m0, h.m1⟩
  obtain ⟨wf, hwf⟩ : ∃ f, wi = f := ⟨_, rfl⟩
  have hpf : PF.oks Try.prog [(29, F3 fun n lo hi => .bool (wf n lo hi)), (30, FCon), (33, plainF fun l => match l with | [] => some (.agg (Prm.cells ⟨2, 256, 0, 0, 0, 0, 0, 0⟩)) | _ => none)] := by rw [← hwf]; exact ⟨min_pure, contains_pure, gate_pure, trivial⟩
  rw [hwf] at e1 e2 e3 e4
  have hc : ∀ w L' rd, (∀ p, rd = some p → p ∈ L') → Cx.ok ⟨Try.prog, tab, [(29, F3 fun n lo hi => .bool (wf n lo hi)), (30, FCon), (33, plainF fun l => match l with | [] => some (.agg (Prm.cells ⟨2, 256, 0, 0, 0, 0, 0, 0⟩)) | _ => none)], 15, Try.f15, [], w, L', rd⟩ := fun w L' rd h => ⟨tab_ok, hpf, Try.func15, mixed, h⟩
  refine BSpec.start (tab := tab) (pf := [(29, F3 fun n lo hi => .bool (wf n lo hi)), (30, FCon), (33, plainF fun l => match l with | [] => some (.agg (Prm.cells ⟨2, 256, 0, 0, 0, 0, 0, 0⟩)) | _ => none)]) (cuts := []) Try.func15 rfl ⟨trivial, (show 0 < 1 by decide), trivial, trivial⟩ rfl fun w L0 plp hL hLB hcov => Run.of_wpK (hc w L0 none (fun _ h => by cases h)) 100 _ ?_
  generalize hRR : SpecR _ _ _ _ _ _ = RR
  conv => whnf
  rw [e1]
  conv => whnf
  rw [decide_eq_false (show ¬ (64 : Int) < (l.length : Int) by omega)]
  conv => whnf
  rw [show ((l.length : Int) == 0) = false from beq_eq_false_iff_ne.2 (by omega)]
  conv => whnf
  refine Run.nils (T' := [(0, ii inp), (1, .opq 0), (2, ii miss), (6, .ptr 2 0), (8, .ptr 3 0), (29, .opq 0), (30, ii (l.length : Int)), (31, ii 0)]) (M' := [(3, .cells [.opq 4, ii inp, .opq 5] 82), (0, .rwin 2 l.length (l.flatMap Pm.vals)), (1, .pin plp), (2, .cells [.v (.slice none 0 0), ii 0, .v (.slice none 0 0)] 57), (4, .row 8 0 [] 88), (5, .row 4 0 [] 126)]) 2 (fun k => if k = 0 then .row 8 0 [] 88 else .row 4 0 [] 126) (fun k _ => by split <;> exact .inl ⟨_, _, rfl⟩) ⟨⟨_, rfl, .inl rfl⟩, ⟨_, rfl, .inl rfl⟩, ⟨_, rfl, .inl rfl⟩, ⟨_, rfl, .inl rfl⟩, ⟨_, rfl, .inl rfl⟩, ⟨_, rfl, .inl rfl⟩, ⟨_, rfl, .inl rfl⟩, ⟨_, rfl, .inl rfl⟩, trivial⟩ ⟨.inr ⟨_, rfl, .inr ⟨_, _, _, rfl, rfl, ⟨.inr (.inl ⟨rfl, 0, by decide, rfl⟩), .inl rfl, .inr (.inl ⟨rfl, 1, by decide, rfl⟩), trivial⟩⟩⟩, .inr ⟨_, rfl, .inl rfl⟩, .inr ⟨_, rfl, .inl rfl⟩, .inr ⟨_, rfl, .inl rfl⟩, .inl ⟨0, by decide, rfl⟩, .inl ⟨1, by decide, rfl⟩, trivial⟩ ?_
  refine Run.trim (T' := [(0, ii inp), (1, .opq 0), (2, ii miss), (6, .ptr 2 0), (8, .ptr 3 0), (29, .opq 0), (30, ii (l.length : Int)), (31, ii ((0 : Nat) : Int))]) (M' := [(1, .pin plp), (0, .rwin 2 l.length (l.flatMap Pm.vals)), (2, .cells [.v (.slice none 0 0), ii 0, .v (.slice none 0 0)] 57), (3, .cells [.opq 4, ii inp, .opq 5] 82), (4, .row 8 0 [] 88), (5, .row 4 ((l.take 0).map patY).length (((l.take 0).map patY).flatMap Syn.cells) 126)]) 6 ⟨⟨rfl, trivial⟩, ⟨rfl, (show 0 < 6 by decide)⟩, ⟨rfl, trivial⟩, ⟨rfl, (show 2 < 6 by decide)⟩, ⟨rfl, (show 3 < 6 by decide)⟩, ⟨rfl, (show 0 < 6 by decide)⟩, ⟨rfl, trivial⟩, ⟨rfl, trivial⟩, trivial⟩ ⟨⟨rfl, by omega, fun p hp => Nat.lt_of_lt_of_le (hcov.1 p hp) (show 1 ≤ 6 by decide)⟩, ⟨rfl, by omega, trivial⟩, ⟨rfl, by omega, by simp [SObj.sc, SV.scs, SV.sc]⟩, ⟨rfl, by omega, by simp [SObj.sc, SV.scs, SV.sc]⟩, ⟨rfl, by omega, trivial⟩, ⟨rfl, by omega, scs_syns2 _ _⟩, trivial⟩ (fun p hp => by have := hLB p hp; omega) ?_
  refine Run.upToJ (T := fun i => [(0, ii inp), (1, .opq 0), (2, ii miss), (6, .ptr 2 0), (8, .ptr 3 0), (29, .opq 0), (30, ii (l.length : Int)), (31, ii ((i : Nat) : Int))]) (M := fun i => [(1, .pin plp), (0, .rwin 2 l.length (l.flatMap Pm.vals)), (2, .cells [.v (.slice none 0 0), ii 0, .v (.slice none 0 0)] 57), (3, .cells [.opq 4, ii inp, .opq 5] 82), (4, .row 8 0 [] 88), (5, .row 4 ((l.take i).map patY).length (((l.take i).map patY).flatMap Syn.cells) 126)]) (fun _ => True) l.length trivial ?_ ?_
  · intro i hi _ ih
    refine Run.of_wpK (hc w L0 none (fun _ h => by cases h)) 1000 _ ?_
    conv => whnf
    rw [decide_eq_true (show ((i : Nat) : Int) < (l.length : Int) by omega)]
    conv => whnf
    refine ⟨by omega, ?_⟩
    conv => whnf
    rw [opF_loadW (f := Pm.vals) (l := l) i rfl rfl rfl rfl rfl Pm.vlen (by rw [idx_nat]) hi]
    conv => whnf
    rw [e2 i hi]
    conv => whnf
    rw [e3 i hi]
    conv => whnf
    refine Run.draw (hc w L0 none (fun _ h => by cases h)) 5 ?_
    rw [show upto 0 5 = upto 0 3 ++ upto 3 2 from rfl]
    simp only [drawK_app]
    conv => whnf
    have htk : List.take ((i - 0) * 2) (List.drop (0 * 2) (l.flatMap Pm.vals)) = (l.take i).flatMap Pm.vals := take_flat (e := 2) (fun _ => rfl) l i
    rw [opF_sliceH (l := 0) (h := i) rfl rfl rfl rfl rfl rfl rfl (by omega) (by omega), htk]
    conv => whnf
    rw [opF_callG (F := FCon) (caps := []) (vs := [.opq 9, .agg [ii l[i].inp, ii l[i].off]]) rfl rfl rfl rfl (FCon_win (l := l.take i) l[i] rfl (by omega)), show decide (0 ≤ idxP (l.take i) l[i]) = false from by rw [h.nd i hi]; rfl]
    conv => whnf
    refine ⟨by kernel_rfl, ?_⟩
    refine Run.of_wpK (hc w L0 none (fun _ h => by cases h)) 1000 _ ?_
    conv => whnf
    refine Run.callR (vs := [.ptr 0 0, ii l[i].inp, ii 0, ii 1, ii (W (16 - l[i].off))]) (caps := []) (caps2 := []) (feed_spec inp l[i].inp 0 1 (W (16 - l[i].off)) ((l.take i).map patY) (by simp; omega)) (ent _ _ Try.func31 (by kernel_rfl) rfl) rfl rfl rfl rfl rfl rfl [.ptr 3 0, ii l[i].inp, ii 0, ii 1, ii (W (16 - l[i].off))] rfl (rq [(0, 3), (1, 4), (2, 5)]) rfl (fun q hq => by have inv : ∀ q, q < 3 → (rq [(0, 3), (1, 4), (2, 5)]) q < 13 := (by decide); exact inv q hq) (fun q hq j hj hne => by have inj : ∀ i, i < 3 → ∀ j, j < 3 → i ≠ j → (rq [(0, 3), (1, 4), (2, 5)]) i ≠ (rq [(0, 3), (1, 4), (2, 5)]) j := (by decide); exact inj q hq j hj hne) (by decide)
      ⟨⟨by omega, by simp [SObj.sc, SV.scs, SV.sc], ⟨_, rfl, Conv.refl _⟩, .inr (by simp), fun h => by cases h⟩, ⟨by omega, scs_syns2 _ _, ⟨_, rfl, by rw [fix_syn]; exact Conv.refl _⟩, .inr (by simp), fun h => by cases h⟩, trivial⟩ (fun q hq => by have hq2 : q = 0 ∨ q = 2 := (by simpa using hq); rcases hq2 with rfl | rfl <;> exact ⟨by omega, _, rfl⟩) (.tup []) [(13, .row 4 ((l.take i).map patY ++ [(⟨W (-1 - l[i].inp), 0, 1, W (16 - l[i].off)⟩ : Syn)]).length (((l.take i).map patY ++ [(⟨W (-1 - l[i].inp), 0, 1, W (16 - l[i].off)⟩ : Syn)]).flatMap Syn.cells) 126), (3, .cells [.opq 4, ii inp, .opq 13] 82), (1, .pin plp), (0, .rwin 2 l.length (l.flatMap Pm.vals)), (2, .cells [.v (.slice none 0 0), ii 0, .v (.slice none 0 0)] 57), (4, .row 8 0 [] 88)] 14 rfl rfl
      ⟨.inr ⟨3, _, rfl, rfl, (fix_syn _ _ _).symm, rfl⟩, .inr ⟨0, _, rfl, rfl, rfl, rfl⟩, .inl ⟨rfl, (fun q hq => by have inv : ∀ q ∈ ([0, 2] : List Nat), (rq [(0, 3), (1, 4), (2, 5)]) q ≠ 1 := (by decide); exact inv q hq)⟩, .inl ⟨rfl, (fun q hq => by have inv : ∀ q ∈ ([0, 2] : List Nat), (rq [(0, 3), (1, 4), (2, 5)]) q ≠ 0 := (by decide); exact inv q hq)⟩, .inl ⟨rfl, (fun q hq => by have inv : ∀ q ∈ ([0, 2] : List Nat), (rq [(0, 3), (1, 4), (2, 5)]) q ≠ 2 := (by decide); exact inv q hq)⟩, .inl ⟨rfl, (fun q hq => by have inv : ∀ q ∈ ([0, 2] : List Nat), (rq [(0, 3), (1, 4), (2, 5)]) q ≠ 4 := (by decide); exact inv q hq)⟩, trivial⟩ ?_
    refine Run.of_wpK (hc w L0 none (fun _ h => by cases h)) 1000 _ ?_
    conv => whnf
    have hsn : (l.take (i + 1)).map patY = ((l.take i).map patY ++ [(⟨W (-1 - l[i].inp), 0, 1, W (16 - l[i].off)⟩ : Syn)]) := by rw [← List.take_append_getElem hi, List.map_append]; rfl
    refine Run.trimQ (T' := [(0, ii inp), (1, .opq 0), (2, ii miss), (6, .ptr 2 0), (8, .ptr 3 0), (29, .opq 0), (30, ii (l.length : Int)), (31, ii ((i + 1 : Nat) : Int))]) (M' := [(1, .pin plp), (0, .rwin 2 l.length (l.flatMap Pm.vals)), (2, .cells [.v (.slice none 0 0), ii 0, .v (.slice none 0 0)] 57), (3, .cells [.opq 4, ii inp, .opq 5] 82), (4, .row 8 0 [] 88), (5, .row 4 ((l.take (i + 1)).map patY).length (((l.take (i + 1)).map patY).flatMap Syn.cells) 126)]) (rq [(5, 13), (13, 5)]) 6 ?_ ⟨⟨rfl, trivial⟩, ⟨rfl, (show 0 < 6 by decide)⟩, ⟨rfl, trivial⟩, ⟨rfl, (show 2 < 6 by decide)⟩, ⟨rfl, (show 3 < 6 by decide)⟩, ⟨rfl, (show 0 < 6 by decide)⟩, ⟨rfl, trivial⟩, ⟨congrArg some (congrArg ii (wrap_succ (by omega))), trivial⟩, trivial⟩ ⟨⟨congrArg some (pin_fix hcov (fun i hi => rq_fix (rq_noneB (B := 1) rfl hi))).symm, by omega, fun p hp => Nat.lt_of_lt_of_le (hcov.1 p hp) (show 1 ≤ 6 by decide)⟩, ⟨rfl, by omega, trivial⟩, ⟨rfl, by omega, by simp [SObj.sc, SV.scs, SV.sc]⟩, ⟨rfl, by omega, by simp [SObj.sc, SV.scs, SV.sc]⟩, ⟨rfl, by omega, trivial⟩, ⟨by rw [fix_syn, hsn]; rfl, by omega, scs_syns2 _ _⟩, trivial⟩ (by
      intro p hp
      have := hLB p hp; exact ⟨rq_fix (rq_noneB (B := 1) rfl this), by omega⟩) (ih trivial)
    intro i hi j hj hne he
    have inv : ∀ i, i < 6 → rq [(5, 13), (13, 5)] (rq [(5, 13), (13, 5)] i) = i := by decide
    exact hne (by rw [← inv i hi, he, inv j hj])
  · intro _
    refine Run.of_wpK (hc w L0 none (fun _ h => by cases h)) 1000 _ ?_
    conv => whnf
    rw [decide_eq_false (show ¬ ((l.length : Nat) : Int) < (l.length : Int) by omega)]
    conv => whnf
    rw [e4]
    conv => whnf
    refine Run.callR (vs := [.ptr 0 0, .agg (Prm.cells ⟨2, 256, 0, 0, 0, 0, 0, 0⟩)]) (caps := []) (caps2 := []) (grow_spec ⟨2, 256, 0, 0, 0, 0, 0, 0⟩) (ent _ _ Try.func32 (by kernel_rfl) rfl) rfl rfl rfl rfl rfl rfl [.ptr 3 0, .agg (Prm.cells ⟨2, 256, 0, 0, 0, 0, 0, 0⟩)] rfl (rq [(0, 3), (3, 0)]) rfl (fun q hq => by have inv : ∀ q, q < 1 → (rq [(0, 3), (3, 0)]) q < 6 := (by decide); exact inv q hq) (fun q hq j hj hne => by have inj : ∀ i, i < 1 → ∀ j, j < 1 → i ≠ j → (rq [(0, 3), (3, 0)]) i ≠ (rq [(0, 3), (3, 0)]) j := (by decide); exact inj q hq j hj hne) (by decide)
      trivial (fun q hq => by cases hq) (.fn 48 [.ptr 7 0, .ptr 6 0]) [(6, .cells [.ptr 3 0] 106), (7, .cells (Prm.cells ⟨2, 256, 0, 0, 0, 0, 0, 0⟩) 88), (1, .pin plp), (0, .rwin 2 l.length (l.flatMap Pm.vals)), (2, .cells [.v (.slice none 0 0), ii 0, .v (.slice none 0 0)] 57), (3, .cells [.opq 4, ii inp, .opq 5] 82), (4, .row 8 0 [] 88), (5, .row 4 ((l.take l.length).map patY).length (((l.take l.length).map patY).flatMap Syn.cells) 126)] 8 rfl rfl
      ⟨.inr ⟨1, _, rfl, rfl, rfl, rfl⟩, .inr ⟨2, _, rfl, rfl, rfl, rfl⟩, .inl ⟨rfl, (fun q hq => by cases hq)⟩, .inl ⟨rfl, (fun q hq => by cases hq)⟩, .inl ⟨rfl, (fun q hq => by cases hq)⟩, .inl ⟨rfl, (fun q hq => by cases hq)⟩, .inl ⟨rfl, (fun q hq => by cases hq)⟩, .inl ⟨rfl, (fun q hq => by cases hq)⟩, trivial⟩ ?_
    refine Run.of_wpK (hc w L0 none (fun _ h => by cases h)) 1000 _ ?_
    conv => whnf
    refine Run.callR (vs := [.slc 3 0 1 1]) (caps := [.ptr 5 0, .ptr 4 0]) (caps2 := [.ptr 7 0, .ptr 6 0]) (grow1_spec inp (W ((l.length : Int) - miss)) ⟨2, 256, 0, 0, 0, 0, 0, 0⟩ [] (by decide)) (ent _ _ Try.func48 (by kernel_rfl) rfl) rfl rfl rfl rfl rfl rfl [.slc 8 0 1 1] rfl (rq [(0, 3), (1, 4), (2, 5), (3, 8), (4, 6), (5, 7)]) rfl (fun q hq => by have inv : ∀ q, q < 6 → (rq [(0, 3), (1, 4), (2, 5), (3, 8), (4, 6), (5, 7)]) q < 9 := (by decide); exact inv q hq) (fun q hq j hj hne => by have inj : ∀ i, i < 6 → ∀ j, j < 6 → i ≠ j → (rq [(0, 3), (1, 4), (2, 5), (3, 8), (4, 6), (5, 7)]) i ≠ (rq [(0, 3), (1, 4), (2, 5), (3, 8), (4, 6), (5, 7)]) j := (by decide); exact inj q hq j hj hne) (by decide)
      ⟨⟨by omega, by simp [SObj.sc, SV.scs, SV.sc], ⟨_, rfl, Conv.refl _⟩, .inr (by simp), fun h => by cases h⟩, ⟨by omega, scs_prms _ _, ⟨_, rfl, Conv.refl _⟩, .inr (by simp), fun h => by cases h⟩, ⟨by omega, by simp [SObj.sc, SV.scs, SV.sc], ⟨_, rfl, Conv.refl _⟩, .inr (by simp), fun h => by cases h⟩, ⟨by omega, by simp [SObj.sc, SV.scs, SV.sc], ⟨_, rfl, Conv.refl _⟩, .inr (by simp), fun h => by cases h⟩, ⟨by omega, ⟨trivial, trivial, trivial, trivial, trivial, trivial, trivial, trivial, trivial⟩, ⟨_, rfl, Conv.refl _⟩, .inr (by simp), fun h => by cases h⟩, trivial⟩ (fun q hq => by have hq2 : q = 0 ∨ q = 1 ∨ q = 3 ∨ q = 4 ∨ q = 5 := (by simpa using hq); rcases hq2 with rfl | rfl | rfl | rfl | rfl <;> exact ⟨by omega, _, rfl⟩) (.tup []) [(9, .row 8 [patP l miss].length ([patP l miss].flatMap Prm.cells) 88), (3, .cells [.opq 9, ii inp, .opq 5] 82), (8, .cells [ii (W ((l.length : Int) - miss))] 3), (6, .cells [.ptr 3 0] 106), (7, .cells (Prm.cells ⟨2, 256, 0, 0, 0, 0, 0, 0⟩) 88), (1, .pin plp), (0, .rwin 2 l.length (l.flatMap Pm.vals)), (2, .cells [.v (.slice none 0 0), ii 0, .v (.slice none 0 0)] 57), (5, .row 4 ((l.take l.length).map patY).length (((l.take l.length).map patY).flatMap Syn.cells) 126)] 10 rfl rfl
      ⟨.inr ⟨6, _, rfl, rfl, (fix_prm _ _ _).symm, rfl⟩, .inr ⟨0, _, rfl, rfl, rfl, rfl⟩, .inr ⟨3, _, rfl, rfl, rfl, rfl⟩, .inr ⟨4, _, rfl, rfl, rfl, rfl⟩, .inr ⟨5, _, rfl, rfl, rfl, rfl⟩, .inl ⟨rfl, (fun q hq => by have inv : ∀ q ∈ ([0, 1, 3, 4, 5] : List Nat), (rq [(0, 3), (1, 4), (2, 5), (3, 8), (4, 6), (5, 7)]) q ≠ 1 := (by decide); exact inv q hq)⟩, .inl ⟨rfl, (fun q hq => by have inv : ∀ q ∈ ([0, 1, 3, 4, 5] : List Nat), (rq [(0, 3), (1, 4), (2, 5), (3, 8), (4, 6), (5, 7)]) q ≠ 0 := (by decide); exact inv q hq)⟩, .inl ⟨rfl, (fun q hq => by have inv : ∀ q ∈ ([0, 1, 3, 4, 5] : List Nat), (rq [(0, 3), (1, 4), (2, 5), (3, 8), (4, 6), (5, 7)]) q ≠ 2 := (by decide); exact inv q hq)⟩, .inl ⟨rfl, (fun q hq => by have inv : ∀ q ∈ ([0, 1, 3, 4, 5] : List Nat), (rq [(0, 3), (1, 4), (2, 5), (3, 8), (4, 6), (5, 7)]) q ≠ 5 := (by decide); exact inv q hq)⟩, trivial⟩ ?_
    refine Run.of_wpK (hc w L0 none (fun _ h => by cases h)) 1000 _ ?_
    conv => whnf
    rw [← hRR]
    refine SpecR.introQ (rq [(1, 9), (2, 5)]) (fun i hi => by obtain rfl : i = 0 := (by omega); rfl) (fun i hi j hj hne => by have inj : ∀ i, i < 3 → ∀ j, j < 3 → i ≠ j → rq [(1, 9), (2, 5)] i ≠ rq [(1, 9), (2, 5)] j := (by decide); exact inj i hi j hj hne) (Widens.refl _ _) hLB (by decide) hcov rfl rfl ⟨⟨(show 1 < 3 by decide), trivial, (show 2 < 3 by decide), trivial⟩, trivial, trivial⟩ ⟨⟨congrArg some (fix_prm _ _ _).symm, by omega, scs_prms _ _⟩, ⟨?_, by omega, scs_syns2 _ _⟩, trivial⟩
    rw [fix_syn]
    have htl : l.take l.length = l := List.take_length
    show some (SObj.row 4 ((l.take l.length).map patY).length (((l.take l.length).map patY).flatMap Syn.cells) 126) = _
    rw [htl]
set_option maxHeartbeats 8000000
theorem prms_v (l : List Prm) : l.flatMap Prm.cells = (l.flatMap Prm.vals).map .v := by
  induction l with
  | nil => rfl
  | cons a l ih => rw [List.flatMap_cons, List.flatMap_cons, List.map_append, ih]; rfl
theorem syns_v2 (l : List Syn) : l.flatMap Syn.cells = (l.flatMap Syn.vals).map .v := by
  induction l with
  | nil => rfl
  | cons a l ih => rw [List.flatMap_cons, List.flatMap_cons, List.map_append, ih]; rfl
theorem fix_evt {r : Nat → Nat} (m : Nat) (l : List Evt) (t : TypeId) : (SObj.row 2 m (l.flatMap Evt.cells) t).ren r = .row 2 m (l.flatMap Evt.cells) t := oren_fix (S := fun _ => False) (fun _ hi => hi.elim) (o := .row 2 m (l.flatMap Evt.cells) t) (scs_evts _ _)
/-- The events, as a map. -/
def evM (l : List Evt) : Nat → List (Key × Value)
  | 0 => []
  | i + 1 => kput (evM l i) (.p (l.getD i evt0).tick (l.getD i evt0).id) (.bool true)
/-- How many of the first marks have their event at some tick. -/
def cntT (l : List Evt) (marks : List Pm) (t : Int) : Nat → Int
  | 0 => 0
  | j + 1 => if (kget (evM l l.length) (.p (W (t + (marks.getD j pm0).off)) (marks.getD j pm0).inp)).isSome = true then W (cntT l marks t j + 1) else cntT l marks t j
/-- Enough marks have their events. -/
def hitT (l : List Evt) (marks : List Pm) (miss : Int) (i : Nat) : Bool := !decide (cntT l marks ((i : Int) - 16) marks.length < W ((marks.length : Int) - miss))
def hitN (l : List Evt) (marks : List Pm) (miss : Int) : Nat → Nat
  | 0 => 0
  | i + 1 => if hitT l marks miss i = true then hitN l marks miss i + 1 else hitN l marks miss i
theorem hitN_le (l : List Evt) (marks : List Pm) (miss : Int) : ∀ i, hitN l marks miss i ≤ i
  | 0 => Nat.le_refl _
  | i + 1 => by
    have := hitN_le l marks miss i
    unfold hitN
    split <;> omega
/-- What is asked of the spikes. -/
structure SpOK (l : List Evt) (marks : List Pm) (miss : Int) (N : Nat) (sp : List Evt) : Prop where
  len : sp.length = hitN l marks miss N
  at' : ∀ i, i < N → hitT l marks miss i = true → sp.getD (hitN l marks miss i) evt0 = ⟨(i : Int), 0⟩
theorem SpOK.lt {l : List Evt} {marks : List Pm} {miss : Int} {N : Nat} {sp : List Evt} (h : SpOK l marks miss N sp) {i : Nat} (hi : i < N) (hh : hitT l marks miss i = true) : hitN l marks miss i < sp.length := by
  rw [h.len]
  have mono : ∀ j k, j ≤ k → hitN l marks miss j ≤ hitN l marks miss k := fun j k hjk => by
    induction k with
    | zero => obtain rfl : j = 0 := (by omega); exact Nat.le_refl _
    | succ k ih =>
      rcases Nat.lt_or_ge j (k + 1) with h1 | h1
      · refine Nat.le_trans (ih (by omega)) ?_
        show _ ≤ (if hitT l marks miss k = true then hitN l marks miss k + 1 else hitN l marks miss k)
        split <;> omega
      · obtain rfl : j = k + 1 := (by omega); exact Nat.le_refl _
  have h1 : hitN l marks miss (i + 1) = hitN l marks miss i + 1 := by show (if hitT l marks miss i = true then _ else _) = _; rw [if_pos hh]
  have := mono (i + 1) N hi
  omega
theorem evM_val (l : List Evt) : ∀ i k v, kget (evM l i) k = some v → v = .bool true
  | 0, k, v, h => by cases h
  | i + 1, k, v, h => by
    have h : kget (kput (evM l i) (.p (l.getD i evt0).tick (l.getD i evt0).id) (.bool true)) k = some v := h
    by_cases e : k = .p (l.getD i evt0).tick (l.getD i evt0).id
    · rw [e, kget_put_same] at h; exact (Option.some.inj h).symm
    · rw [kget_put_other _ _ _ _ e] at h; exact evM_val l i k v h
theorem seen_run (c : Cam) (h : CamOK c) (v : Value) (fs : List (List Int)) (hf : ∀ f ∈ fs, FrameOK c f) (h0 : 1 ≤ fs.length) (h1 : fs.length ≤ 30) (vM : Value) (marks : List Pm) (miss : Int) (w : World) (hv : FramesAt w v fs) (hM : RowsAt w vM 2 marks.length (marks.flatMap Pm.vals))
    (l : List Evt) (hl : watch c fs = l) (hs : StreamOK l) (pos mid q1 q2 : Nat → Nat) (hu : UnpOK l pos mid q1 q2) (hp : PatOK (W (W (2 * c.wide) * c.high)) marks miss)
    (hn : prepChk ⟨[patP marks miss], W (W (2 * c.wide) * c.high), marks.map patY⟩ l ((fs.length + 20 : Nat) : Int) 10000 = 0)
    (hsp : SpOK l marks miss (fs.length + 20) (nO ⟨[patP marks miss], W (W (2 * c.wide) * c.high), marks.map patY⟩ l (fs.length + 20))) :
    Calls Try.prog 5 #[.agg c.vals.toArray, v, vM, .int .i64 miss] w fun e w' => e = .returned (.bool true) ∧ Ext w w' := by
  have hpk := hs.pk
  have hll := hpk.len
  have hl1 := hp.l1
  have hl0 := hp.l0
  obtain ⟨vs, hv1, hv2, hv3⟩ := hv
  have hc : ∀ w L' rd, (∀ p, rd = some p → p ∈ L') → Cx.ok ⟨Try.prog, tab, [(2000, fun _ _ => none)], 5, Try.f5, [], w, L', rd⟩ := fun w L' rd h => ⟨tab_ok, ⟨trivial, trivial⟩, Try.func5, mixed, h⟩
  have hrows : AllP (fun x : Value × Nat × Nat × List Value => RowsAt w x.1 x.2.1 x.2.2.1 x.2.2.2) [(v, 1, fs.length, vs), (vM, 2, marks.length, marks.flatMap Pm.vals)] := ⟨hv1, hM, trivial⟩
  refine Run.startW (tab := tab) (pf := [(2000, fun _ _ => none)]) (cuts := []) Try.func5 rfl _ hrows [.agg [ii c.wide, ii c.high, ii c.step], .opq 0, .opq 1, ii miss] [.agg c.vals.toArray, v, vM, .int .i64 miss] [(0, .rwin 1 fs.length vs), (1, .rwin 2 marks.length (marks.flatMap Pm.vals))] 2 rfl rfl (by show [_, (SV.opq 0).conc _, (SV.opq 1).conc _, _] = _; rw [conc_rows hrows (k := 0) rfl, conc_rows hrows (k := 1) rfl]; rfl) (by simp [SV.scs, SV.sc]) rfl (Run.of_wpK (hc w [] none (fun _ h => by cases h)) 100 _ ?_)
  conv => whnf
  refine Run.callO (vs := [.agg [ii c.wide, ii c.high, ii c.step], .opq 0]) (caps := []) (fun x => .tup [x, ii 0]) (fun x => .tuple #[x, .int .i64 0]) (fun ρ w1 hW => watch_run c h _ fs hf h0 (by omega) (by rw [hl]; omega) w1 ⟨vs, hW.rowsAt (i := 0) rfl, hv2, fun i h h' => (hv3 i h h').ext hW.toExt⟩) (ent _ _ Try.func4 (by kernel_rfl) rfl) rfl rfl rfl rfl rfl rfl rfl (fun _ _ => rfl) (fun _ _ h => ⟨h, trivial, trivial⟩) ?_
  rw [hl, ← evts_v]
  refine Run.of_wpK (hc w [] none (fun _ h => by cases h)) 1000 _ ?_
  conv => whnf
  refine Run.callR (vs := []) (caps := []) (caps2 := []) newRec_spec (ent _ _ Try.func9 (by kernel_rfl) rfl) rfl rfl rfl rfl rfl rfl [] rfl (rq []) rfl (fun q hq => by have inv : ∀ q, q < 0 → (rq []) q < 4 := (by decide); exact inv q hq) (fun q hq j hj hne => by have inj : ∀ i, i < 0 → ∀ j, j < 0 → i ≠ j → (rq []) i ≠ (rq []) j := (by decide); exact inj q hq j hj hne) (by decide)
    trivial (fun q hq => by cases hq) (.ptr 4 0) [(4, .cells [.v (.bool true), .v (.slice none 0 0)] 67), (0, .rwin 1 fs.length vs), (1, .rwin 2 marks.length (marks.flatMap Pm.vals)), (2, .cells [ii c.wide, ii c.high, ii c.step] 27), (3, .row 2 l.length (l.flatMap Evt.cells) 45)] 5 rfl rfl
    ⟨.inr ⟨0, _, rfl, rfl, rfl, rfl⟩, .inl ⟨rfl, (fun q hq => by cases hq)⟩, .inl ⟨rfl, (fun q hq => by cases hq)⟩, .inl ⟨rfl, (fun q hq => by cases hq)⟩, .inl ⟨rfl, (fun q hq => by cases hq)⟩, trivial⟩ ?_
  refine Run.of_wpK (hc w [] none (fun _ h => by cases h)) 1000 _ ?_
  conv => whnf
  refine Run.nils (T' := [(1, .opq 0), (2, .opq 1), (3, ii miss), (4, .ptr 2 0), (9, .opq 3), (11, .ptr 4 0), (36, .opq 3), (37, ii (l.length : Int)), (38, ii 0)]) (M' := [(0, .rwin 1 fs.length vs), (1, .rwin 2 marks.length (marks.flatMap Pm.vals)), (2, .cells [ii c.wide, ii c.high, ii c.step] 27), (3, .row 2 l.length (l.flatMap Evt.cells) 45), (4, .cells [.v (.bool true), .opq 5] 67), (5, .row 2 0 [] 45)]) 1 (fun _ => .row 2 0 [] 45) (fun _ _ => .inl ⟨_, _, rfl⟩) ⟨⟨_, rfl, .inl rfl⟩, ⟨_, rfl, .inl rfl⟩, ⟨_, rfl, .inl rfl⟩, ⟨_, rfl, .inl rfl⟩, ⟨_, rfl, .inl rfl⟩, ⟨_, rfl, .inl rfl⟩, ⟨_, rfl, .inl rfl⟩, ⟨_, rfl, .inl rfl⟩, ⟨_, rfl, .inl rfl⟩, trivial⟩ ⟨.inr ⟨_, rfl, .inl rfl⟩, .inr ⟨_, rfl, .inl rfl⟩, .inr ⟨_, rfl, .inl rfl⟩, .inr ⟨_, rfl, .inl rfl⟩, .inr ⟨_, rfl, .inr ⟨_, _, _, rfl, rfl, ⟨.inl rfl, .inr (.inl ⟨rfl, 0, by decide, rfl⟩), trivial⟩⟩⟩, .inl ⟨0, by decide, rfl⟩, trivial⟩ ?_
  refine Run.trim (T' := [(1, .opq 0), (2, .opq 1), (3, ii miss), (4, .ptr 2 0), (9, .opq 3), (11, .ptr 4 0), (36, .opq 3), (37, ii (l.length : Int)), (38, ii ((0 : Nat) : Int))]) (M' := [(0, .rwin 1 fs.length vs), (1, .rwin 2 marks.length (marks.flatMap Pm.vals)), (2, .cells [ii c.wide, ii c.high, ii c.step] 27), (3, .row 2 l.length (l.flatMap Evt.cells) 45), (4, .cells [.v (.bool true), .opq 5] 67), (5, .row 2 (l.take 0).length ((l.take 0).flatMap Evt.cells) 45)]) 6 ⟨⟨rfl, (show 0 < 6 by decide)⟩, ⟨rfl, (show 1 < 6 by decide)⟩, ⟨rfl, trivial⟩, ⟨rfl, (show 2 < 6 by decide)⟩, ⟨rfl, (show 3 < 6 by decide)⟩, ⟨rfl, (show 4 < 6 by decide)⟩, ⟨rfl, (show 3 < 6 by decide)⟩, ⟨rfl, trivial⟩, ⟨rfl, trivial⟩, trivial⟩ ⟨⟨rfl, by omega, trivial⟩, ⟨rfl, by omega, trivial⟩, ⟨rfl, by omega, by simp [SObj.sc, SV.scs, SV.sc]⟩, ⟨rfl, by omega, scs_evts _ _⟩, ⟨rfl, by omega, by simp [SObj.sc, SV.scs, SV.sc]⟩, ⟨rfl, by omega, scs_evts _ _⟩, trivial⟩ (fun p hp => by cases hp) ?_
  refine Run.upToJ (T := fun i => [(1, .opq 0), (2, .opq 1), (3, ii miss), (4, .ptr 2 0), (9, .opq 3), (11, .ptr 4 0), (36, .opq 3), (37, ii (l.length : Int)), (38, ii ((i : Nat) : Int))]) (M := fun i => [(0, .rwin 1 fs.length vs), (1, .rwin 2 marks.length (marks.flatMap Pm.vals)), (2, .cells [ii c.wide, ii c.high, ii c.step] 27), (3, .row 2 l.length (l.flatMap Evt.cells) 45), (4, .cells [.v (.bool true), .opq 5] 67), (5, .row 2 (l.take i).length ((l.take i).flatMap Evt.cells) 45)]) (fun _ => True) l.length trivial ?_ ?_
  · intro i hi _ ih
    refine Run.of_wpK (hc w [] none (fun _ h => by cases h)) 1000 _ ?_
    conv => whnf
    rw [decide_eq_true (show ((i : Nat) : Int) < (l.length : Int) by omega)]
    conv => whnf
    refine ⟨by omega, ?_⟩
    conv => whnf
    rw [opF_loadR (f := Evt.cells) (l := l) i rfl rfl rfl rfl rfl (fun _ => rfl) (by rw [idx_nat]) hi]
    conv => whnf
    have htk : (l.take i).length = i := by simp; omega
    have hsn : l.take (i + 1) = l.take i ++ [l[i]] := (List.take_append_getElem hi).symm
    have hadd := add_spec (l.take i) l[i] (hs.ok i hi) (by omega) (fun h => by
      have h9 := hs.lt i hi (by omega)
      have e3 : (l.take i)[(l.take i).length - 1]'(by omega) = l[i - 1]'(by omega) := by simp only [List.getElem_take, htk]
      rw [e3]; exact h9)
    refine Run.callR (vs := [.ptr 0 0, .agg [ii l[i].tick, ii l[i].id]]) (caps := []) (caps2 := []) hadd (ent _ _ Try.func10 (by kernel_rfl) rfl) rfl rfl rfl rfl rfl rfl [.ptr 4 0, .agg [ii l[i].tick, ii l[i].id]] rfl (rq [(0, 4), (1, 5)]) rfl (fun q hq => by have inv : ∀ q, q < 2 → (rq [(0, 4), (1, 5)]) q < 7 := (by decide); exact inv q hq) (fun q hq j hj hne => by have inj : ∀ i, i < 2 → ∀ j, j < 2 → i ≠ j → (rq [(0, 4), (1, 5)]) i ≠ (rq [(0, 4), (1, 5)]) j := (by decide); exact inj q hq j hj hne) (by decide)
      ⟨⟨by omega, by simp [SObj.sc, SV.scs, SV.sc], ⟨_, rfl, Conv.refl _⟩, .inr (by simp), fun h => by cases h⟩, ⟨by omega, scs_evts _ _, ⟨_, rfl, by rw [fix_evt]; exact Conv.refl _⟩, .inr (by simp), fun h => by cases h⟩, trivial⟩ (fun q hq => by have hq2 : q = 0 ∨ q = 1 := (by simpa using hq); rcases hq2 with rfl | rfl <;> exact ⟨by omega, _, rfl⟩) (ii 0) [(7, .row 2 (l.take i ++ [l[i]]).length ((l.take i ++ [l[i]]).flatMap Evt.cells) 45), (4, .cells [.v (.bool true), .opq 7] 67), (0, .rwin 1 fs.length vs), (1, .rwin 2 marks.length (marks.flatMap Pm.vals)), (2, .cells [ii c.wide, ii c.high, ii c.step] 27), (3, .row 2 l.length (l.flatMap Evt.cells) 45)] 8 rfl rfl
      ⟨.inr ⟨2, _, rfl, rfl, (fix_evt _ _ _).symm, rfl⟩, .inr ⟨0, _, rfl, rfl, rfl, rfl⟩, .inl ⟨rfl, (fun q hq => by have inv : ∀ q ∈ ([0, 1] : List Nat), (rq [(0, 4), (1, 5)]) q ≠ 0 := (by decide); exact inv q hq)⟩, .inl ⟨rfl, (fun q hq => by have inv : ∀ q ∈ ([0, 1] : List Nat), (rq [(0, 4), (1, 5)]) q ≠ 1 := (by decide); exact inv q hq)⟩, .inl ⟨rfl, (fun q hq => by have inv : ∀ q ∈ ([0, 1] : List Nat), (rq [(0, 4), (1, 5)]) q ≠ 2 := (by decide); exact inv q hq)⟩, .inl ⟨rfl, (fun q hq => by have inv : ∀ q ∈ ([0, 1] : List Nat), (rq [(0, 4), (1, 5)]) q ≠ 3 := (by decide); exact inv q hq)⟩, trivial⟩ ?_
    refine Run.of_wpK (hc w [] none (fun _ h => by cases h)) 1000 _ ?_
    conv => whnf
    refine Run.trimQ (T' := [(1, .opq 0), (2, .opq 1), (3, ii miss), (4, .ptr 2 0), (9, .opq 3), (11, .ptr 4 0), (36, .opq 3), (37, ii (l.length : Int)), (38, ii ((i + 1 : Nat) : Int))]) (M' := [(0, .rwin 1 fs.length vs), (1, .rwin 2 marks.length (marks.flatMap Pm.vals)), (2, .cells [ii c.wide, ii c.high, ii c.step] 27), (3, .row 2 l.length (l.flatMap Evt.cells) 45), (4, .cells [.v (.bool true), .opq 5] 67), (5, .row 2 (l.take (i + 1)).length ((l.take (i + 1)).flatMap Evt.cells) 45)]) (rq [(5, 7), (7, 5)]) 6 ?_ ⟨⟨rfl, (show 0 < 6 by decide)⟩, ⟨rfl, (show 1 < 6 by decide)⟩, ⟨rfl, trivial⟩, ⟨rfl, (show 2 < 6 by decide)⟩, ⟨rfl, (show 3 < 6 by decide)⟩, ⟨rfl, (show 4 < 6 by decide)⟩, ⟨rfl, (show 3 < 6 by decide)⟩, ⟨rfl, trivial⟩, ⟨congrArg some (congrArg ii (wrap_succ (by omega))), trivial⟩, trivial⟩ ⟨⟨rfl, by omega, trivial⟩, ⟨rfl, by omega, trivial⟩, ⟨rfl, by omega, by simp [SObj.sc, SV.scs, SV.sc]⟩, ⟨congrArg some (fix_evt _ _ _).symm, by omega, scs_evts _ _⟩, ⟨rfl, by omega, by simp [SObj.sc, SV.scs, SV.sc]⟩, ⟨by rw [fix_evt, hsn]; rfl, by omega, scs_evts _ _⟩, trivial⟩ (by intro p hp; cases hp) (ih trivial)
    intro i hi j hj hne he
    have inv : ∀ i, i < 6 → rq [(5, 7), (7, 5)] (rq [(5, 7), (7, 5)] i) = i := by decide
    exact hne (by rw [← inv i hi, he, inv j hj])
  · intro _
    refine Run.of_wpK (hc w [] none (fun _ h => by cases h)) 1000 _ ?_
    conv => whnf
    rw [decide_eq_false (show ¬ ((l.length : Nat) : Int) < (l.length : Int) by omega)]
    conv => whnf
    rw [show l.take l.length = l from List.take_length]
    refine Run.callR (vs := [.ptr 0 0]) (caps := []) (caps2 := []) (bytes_spec l hpk) (ent _ _ Try.func11 (by kernel_rfl) rfl) rfl rfl rfl rfl rfl rfl [.ptr 4 0] rfl (rq [(0, 4), (1, 5)]) rfl (fun q hq => by have inv : ∀ q, q < 2 → (rq [(0, 4), (1, 5)]) q < 6 := (by decide); exact inv q hq) (fun q hq j hj hne => by have inj : ∀ i, i < 2 → ∀ j, j < 2 → i ≠ j → (rq [(0, 4), (1, 5)]) i ≠ (rq [(0, 4), (1, 5)]) j := (by decide); exact inj q hq j hj hne) (by decide)
      ⟨⟨by omega, by simp [SObj.sc, SV.scs, SV.sc], ⟨_, rfl, Conv.refl _⟩, .inr (by simp), fun h => by cases h⟩, ⟨by omega, scs_evts _ _, ⟨_, rfl, by rw [fix_evt]; exact Conv.refl _⟩, .inr (by simp), fun h => by cases h⟩, trivial⟩ (fun q hq => by have hq2 : q = 0 ∨ q = 1 := (by simpa using hq); rcases hq2 with rfl | rfl <;> exact ⟨by omega, _, rfl⟩) (.tup [.opq 6, ii 0]) [(6, .row 1 (packB l).length ((packB l).map fun x => u8s x) 5), (4, .cells [.v (.bool true), .opq 5] 67), (5, .row 2 l.length (l.flatMap Evt.cells) 45), (0, .rwin 1 fs.length vs), (1, .rwin 2 marks.length (marks.flatMap Pm.vals)), (2, .cells [ii c.wide, ii c.high, ii c.step] 27), (3, .row 2 l.length (l.flatMap Evt.cells) 45)] 7 rfl rfl
      ⟨.inr ⟨2, _, rfl, rfl, (fix_u8 _ _ _).symm, rfl⟩, .inr ⟨0, _, rfl, rfl, rfl, rfl⟩, .inr ⟨1, _, rfl, rfl, (fix_evt _ _ _).symm, rfl⟩, .inl ⟨rfl, (fun q hq => by have inv : ∀ q ∈ ([0, 1] : List Nat), (rq [(0, 4), (1, 5)]) q ≠ 0 := (by decide); exact inv q hq)⟩, .inl ⟨rfl, (fun q hq => by have inv : ∀ q ∈ ([0, 1] : List Nat), (rq [(0, 4), (1, 5)]) q ≠ 1 := (by decide); exact inv q hq)⟩, .inl ⟨rfl, (fun q hq => by have inv : ∀ q ∈ ([0, 1] : List Nat), (rq [(0, 4), (1, 5)]) q ≠ 2 := (by decide); exact inv q hq)⟩, .inl ⟨rfl, (fun q hq => by have inv : ∀ q ∈ ([0, 1] : List Nat), (rq [(0, 4), (1, 5)]) q ≠ 3 := (by decide); exact inv q hq)⟩, trivial⟩ ?_
    refine Run.of_wpK (hc w [] none (fun _ h => by cases h)) 1000 _ ?_
    conv => whnf
    refine Run.callO (vs := [.opq 6]) (caps := []) (fun x => .tup [x, ii 0]) (fun x => .tuple #[x, .int .i64 0]) (fun ρ w1 hW => by
      have h8 := hW.rowsAtR (i := 6) rfl (by decide)
      rw [concs_u8] at h8
      exact unpack_run _ l hs pos mid q1 q2 hu w1 h8) (ent _ _ Try.func12 (by kernel_rfl) rfl) rfl rfl rfl rfl rfl rfl rfl (fun _ _ => rfl) (fun _ _ h => ⟨h, trivial, trivial⟩) ?_
    rw [← evts_v]
    refine Run.of_wpK (hc w [] none (fun _ h => by cases h)) 1000 _ ?_
    conv => whnf
    refine Run.callE (g := 13) (vs := [.opq 7, .opq 3]) (caps := []) (.v (.bool true)) (fun ρ w1 hW => by
      have h8 := hW.rowsAtR (i := 7) rfl (by decide)
      have h9 := hW.rowsAtR (i := 3) rfl (by decide)
      rw [evts_v, concs_v] at h8 h9
      exact same_run _ _ l (by omega) w1 h8 h9) (ent _ _ Try.func13 (by kernel_rfl) rfl) rfl rfl rfl rfl rfl rfl rfl trivial ?_
    refine Run.of_wpK (hc w [] none (fun _ h => by cases h)) 1000 _ ?_
    conv => whnf
    refine Run.callR (vs := [.ptr 0 0]) (caps := []) (caps2 := []) (count_spec l) (ent _ _ Try.func14 (by kernel_rfl) rfl) rfl rfl rfl rfl rfl rfl [.ptr 4 0] rfl (rq [(0, 4), (1, 5)]) rfl (fun q hq => by have inv : ∀ q, q < 2 → (rq [(0, 4), (1, 5)]) q < 8 := (by decide); exact inv q hq) (fun q hq j hj hne => by have inj : ∀ i, i < 2 → ∀ j, j < 2 → i ≠ j → (rq [(0, 4), (1, 5)]) i ≠ (rq [(0, 4), (1, 5)]) j := (by decide); exact inj q hq j hj hne) (by decide)
      ⟨⟨by omega, by simp [SObj.sc, SV.scs, SV.sc], ⟨_, rfl, Conv.refl _⟩, .inr (by simp), fun h => by cases h⟩, ⟨by omega, scs_evts _ _, ⟨_, rfl, by rw [fix_evt]; exact Conv.refl _⟩, .inr (by simp), fun h => by cases h⟩, trivial⟩ (fun q hq => by have hq2 : q = 0 ∨ q = 1 := (by simpa using hq); rcases hq2 with rfl | rfl <;> exact ⟨by omega, _, rfl⟩) (ii (l.length : Int)) [(7, .row 2 l.length (l.flatMap Evt.cells) 45), (4, .cells [.v (.bool true), .opq 5] 67), (5, .row 2 l.length (l.flatMap Evt.cells) 45), (0, .rwin 1 fs.length vs), (1, .rwin 2 marks.length (marks.flatMap Pm.vals)), (2, .cells [ii c.wide, ii c.high, ii c.step] 27), (3, .row 2 l.length (l.flatMap Evt.cells) 45)] 8 rfl rfl
      ⟨.inl ⟨rfl, (fun q hq => by have inv : ∀ q ∈ ([0, 1] : List Nat), (rq [(0, 4), (1, 5)]) q ≠ 7 := (by decide); exact inv q hq)⟩, .inr ⟨0, _, rfl, rfl, rfl, rfl⟩, .inr ⟨1, _, rfl, rfl, (fix_evt _ _ _).symm, rfl⟩, .inl ⟨rfl, (fun q hq => by have inv : ∀ q ∈ ([0, 1] : List Nat), (rq [(0, 4), (1, 5)]) q ≠ 0 := (by decide); exact inv q hq)⟩, .inl ⟨rfl, (fun q hq => by have inv : ∀ q ∈ ([0, 1] : List Nat), (rq [(0, 4), (1, 5)]) q ≠ 1 := (by decide); exact inv q hq)⟩, .inl ⟨rfl, (fun q hq => by have inv : ∀ q ∈ ([0, 1] : List Nat), (rq [(0, 4), (1, 5)]) q ≠ 2 := (by decide); exact inv q hq)⟩, .inl ⟨rfl, (fun q hq => by have inv : ∀ q ∈ ([0, 1] : List Nat), (rq [(0, 4), (1, 5)]) q ≠ 3 := (by decide); exact inv q hq)⟩, trivial⟩ ?_
    refine Run.of_wpK (hc w [] none (fun _ h => by cases h)) 1000 _ ?_
    conv => whnf
    rw [show ((l.length : Int) != (l.length : Int)) = false by simp]
    conv => whnf
    obtain ⟨inp, hinp⟩ : ∃ i, W (W (2 * c.wide) * c.high) = i := ⟨_, rfl⟩
    rw [hinp] at hp hn hsp
    rw [show IntKind.i64.wrap (IntKind.i64.wrap (2 * c.wide) * c.high) = inp from hinp]
    refine Run.callR (vs := [ii inp, .opq 0, ii miss]) (caps := []) (caps2 := []) (pattern_spec inp marks miss hp) (ent _ _ Try.func15 (by kernel_rfl) rfl) rfl rfl rfl rfl rfl rfl [ii inp, .opq 1, ii miss] rfl (rq [(0, 1), (1, 0)]) rfl (fun q hq => by have inv : ∀ q, q < 1 → (rq [(0, 1), (1, 0)]) q < 8 := (by decide); exact inv q hq) (fun q hq j hj hne => by have inj : ∀ i, i < 1 → ∀ j, j < 1 → i ≠ j → (rq [(0, 1), (1, 0)]) i ≠ (rq [(0, 1), (1, 0)]) j := (by decide); exact inj q hq j hj hne) (by decide)
      ⟨⟨by omega, trivial, ⟨_, rfl, Conv.refl _⟩, .inl rfl, fun _ => by simp⟩, trivial⟩ (fun q hq => by cases hq) (.tup [.agg [.opq 8, ii inp, .opq 9], ii 0]) [(8, .row 8 [patP marks miss].length ([patP marks miss].flatMap Prm.cells) 88), (9, .row 4 (marks.map patY).length ((marks.map patY).flatMap Syn.cells) 126), (7, .row 2 l.length (l.flatMap Evt.cells) 45), (0, .rwin 1 fs.length vs), (1, .rwin 2 marks.length (marks.flatMap Pm.vals)), (2, .cells [ii c.wide, ii c.high, ii c.step] 27), (3, .row 2 l.length (l.flatMap Evt.cells) 45)] 10 rfl rfl
      ⟨.inr ⟨1, _, rfl, rfl, (fix_prm _ _ _).symm, rfl⟩, .inr ⟨2, _, rfl, rfl, (fix_syn _ _ _).symm, rfl⟩, .inl ⟨rfl, (fun q hq => by cases hq)⟩, .inl ⟨rfl, (fun q hq => by cases hq)⟩, .inl ⟨rfl, (fun q hq => by cases hq)⟩, .inl ⟨rfl, (fun q hq => by cases hq)⟩, .inl ⟨rfl, (fun q hq => by cases hq)⟩, trivial⟩ ?_
    refine Run.of_wpK (hc w [] none (fun _ h => by cases h)) 1000 _ ?_
    conv => whnf
    have hw20 : IntKind.i64.wrap ((fs.length : Int) + 20) = ((fs.length + 20 : Nat) : Int) := by rw [show (fs.length : Int) + 20 = ((fs.length + 20 : Nat) : Int) by omega]; exact W_id (by omega) (by omega)
    rw [hw20]
    have hrun := nRun_ok ⟨[patP marks miss], inp, marks.map patY⟩ l (fs.length + 20) hn (by show _ * 1 ≤ _; omega)
    obtain ⟨sp, hspe⟩ : ∃ sp, nO ⟨[patP marks miss], inp, marks.map patY⟩ l (fs.length + 20) = sp := ⟨_, rfl⟩
    rw [hspe] at hrun hsp
    refine Run.callR (vs := [.agg [.opq 0, ii inp, .opq 1], .opq 2, ii ((fs.length + 20 : Nat) : Int)]) (caps := []) (caps2 := []) hrun (ent _ _ Try.func16 (by kernel_rfl) rfl) rfl rfl rfl rfl rfl rfl [.agg [.opq 8, ii inp, .opq 9], .opq 7, ii ((fs.length + 20 : Nat) : Int)] rfl (rq [(0, 8), (1, 9), (2, 7)]) rfl (fun q hq => by have inv : ∀ q, q < 3 → (rq [(0, 8), (1, 9), (2, 7)]) q < 11 := (by decide); exact inv q hq) (fun q hq j hj hne => by have inj : ∀ i, i < 3 → ∀ j, j < 3 → i ≠ j → (rq [(0, 8), (1, 9), (2, 7)]) i ≠ (rq [(0, 8), (1, 9), (2, 7)]) j := (by decide); exact inj q hq j hj hne) (by decide)
      ⟨⟨by omega, trivial, ⟨_, rfl, Conv.row (by decide) (prms_v _)⟩, .inl rfl, fun _ => by simp⟩, ⟨by omega, trivial, ⟨_, rfl, Conv.row (by decide) (syns_v2 _)⟩, .inl rfl, fun _ => by simp⟩, ⟨by omega, trivial, ⟨_, rfl, Conv.row (by decide) (evts_v _)⟩, .inl rfl, fun _ => by simp⟩, trivial⟩ (fun q hq => by cases hq) (.tup [.opq 11, ii 0]) [(11, .row 2 sp.length (sp.flatMap Evt.cells) 45), (0, .rwin 1 fs.length vs), (1, .rwin 2 marks.length (marks.flatMap Pm.vals)), (2, .cells [ii c.wide, ii c.high, ii c.step] 27), (3, .row 2 l.length (l.flatMap Evt.cells) 45)] 12 rfl rfl
      ⟨.inr ⟨3, _, rfl, rfl, (fix_evt _ _ _).symm, rfl⟩, .inl ⟨rfl, (fun q hq => by cases hq)⟩, .inl ⟨rfl, (fun q hq => by cases hq)⟩, .inl ⟨rfl, (fun q hq => by cases hq)⟩, .inl ⟨rfl, (fun q hq => by cases hq)⟩, trivial⟩ ?_
    refine Run.of_wpK (hc w [] none (fun _ h => by cases h)) 1000 _ ?_
    conv => whnf
    refine Run.trim (T' := [(1, .opq 0), (2, .opq 1), (3, ii miss), (18, .opq 11), (19, .mp 12), (102, .opq 3), (103, ii (l.length : Int)), (104, ii ((0 : Nat) : Int))]) (M' := [(0, .rwin 1 fs.length vs), (1, .rwin 2 marks.length (marks.flatMap Pm.vals)), (11, .row 2 sp.length (sp.flatMap Evt.cells) 45), (3, .row 2 l.length (l.flatMap Evt.cells) 45), (12, .kmap true true (evM l 0))]) 13 ⟨⟨rfl, (show 0 < 13 by decide)⟩, ⟨rfl, (show 1 < 13 by decide)⟩, ⟨rfl, trivial⟩, ⟨rfl, (show 11 < 13 by decide)⟩, ⟨rfl, (show 12 < 13 by decide)⟩, ⟨rfl, (show 3 < 13 by decide)⟩, ⟨rfl, trivial⟩, ⟨rfl, trivial⟩, trivial⟩ ⟨⟨rfl, by omega, trivial⟩, ⟨rfl, by omega, trivial⟩, ⟨rfl, by omega, scs_evts _ _⟩, ⟨rfl, by omega, scs_evts _ _⟩, ⟨rfl, by omega, trivial⟩, trivial⟩ (fun p hp => by cases hp) ?_
    refine Run.upToJ (T := fun i => [(1, .opq 0), (2, .opq 1), (3, ii miss), (18, .opq 11), (19, .mp 12), (102, .opq 3), (103, ii (l.length : Int)), (104, ii ((i : Nat) : Int))]) (M := fun i => [(0, .rwin 1 fs.length vs), (1, .rwin 2 marks.length (marks.flatMap Pm.vals)), (11, .row 2 sp.length (sp.flatMap Evt.cells) 45), (3, .row 2 l.length (l.flatMap Evt.cells) 45), (12, .kmap true true (evM l i))]) (fun _ => True) l.length trivial ?_ ?_
    · intro i hi _ ih
      refine Run.of_wpK (hc w [] none (fun _ h => by cases h)) 1000 _ ?_
      conv => whnf
      rw [decide_eq_true (show ((i : Nat) : Int) < (l.length : Int) by omega)]
      conv => whnf
      refine ⟨by omega, ?_⟩
      conv => whnf
      rw [opF_loadR (f := Evt.cells) (l := l) i rfl rfl rfl rfl rfl (fun _ => rfl) (by rw [idx_nat]) hi]
      conv => whnf
      have hgi : l.getD i evt0 = l[i] := by simp [List.getD_eq_getElem?_getD, hi]
      exact Run.trim (T' := [(1, .opq 0), (2, .opq 1), (3, ii miss), (18, .opq 11), (19, .mp 12), (102, .opq 3), (103, ii (l.length : Int)), (104, ii ((i + 1 : Nat) : Int))]) (M' := [(0, .rwin 1 fs.length vs), (1, .rwin 2 marks.length (marks.flatMap Pm.vals)), (11, .row 2 sp.length (sp.flatMap Evt.cells) 45), (3, .row 2 l.length (l.flatMap Evt.cells) 45), (12, .kmap true true (evM l (i + 1)))]) 13 ⟨⟨rfl, (show 0 < 13 by decide)⟩, ⟨rfl, (show 1 < 13 by decide)⟩, ⟨rfl, trivial⟩, ⟨rfl, (show 11 < 13 by decide)⟩, ⟨rfl, (show 12 < 13 by decide)⟩, ⟨rfl, (show 3 < 13 by decide)⟩, ⟨rfl, trivial⟩, ⟨congrArg some (congrArg ii (wrap_succ (by omega))), trivial⟩, trivial⟩ ⟨⟨rfl, by omega, trivial⟩, ⟨rfl, by omega, trivial⟩, ⟨rfl, by omega, scs_evts _ _⟩, ⟨rfl, by omega, scs_evts _ _⟩, ⟨by show _ = some (SObj.kmap true true (kput (evM l i) (.p (l.getD i evt0).tick (l.getD i evt0).id) (.bool true))); rw [hgi]; rfl, by omega, trivial⟩, trivial⟩ (fun p hp => by cases hp) (ih trivial)
    · intro _
      refine Run.of_wpK (hc w [] none (fun _ h => by cases h)) 1000 _ ?_
      conv => whnf
      rw [decide_eq_false (show ¬ ((l.length : Nat) : Int) < (l.length : Int) by omega)]
      conv => whnf
      refine Run.trim (T' := [(1, .opq 0), (2, .opq 1), (3, ii miss), (18, .opq 11), (19, .mp 12), (22, ii (((hitN l marks miss 0) : Nat) : Int)), (23, ii (((0 : Nat) : Int) - 16))]) (M' := [(0, .rwin 1 fs.length vs), (1, .rwin 2 marks.length (marks.flatMap Pm.vals)), (11, .row 2 sp.length (sp.flatMap Evt.cells) 45), (12, .kmap true true (evM l l.length))]) 13 ⟨⟨rfl, (show 0 < 13 by decide)⟩, ⟨rfl, (show 1 < 13 by decide)⟩, ⟨rfl, trivial⟩, ⟨rfl, (show 11 < 13 by decide)⟩, ⟨rfl, (show 12 < 13 by decide)⟩, ⟨rfl, trivial⟩, ⟨rfl, trivial⟩, trivial⟩ ⟨⟨rfl, by omega, trivial⟩, ⟨rfl, by omega, trivial⟩, ⟨rfl, by omega, scs_evts _ _⟩, ⟨rfl, by omega, trivial⟩, trivial⟩ (fun p hp => by cases hp) ?_
      refine Run.upToJ (T := fun i => [(1, .opq 0), (2, .opq 1), (3, ii miss), (18, .opq 11), (19, .mp 12), (22, ii (((hitN l marks miss i) : Nat) : Int)), (23, ii (((i : Nat) : Int) - 16))]) (M := fun i => [(0, .rwin 1 fs.length vs), (1, .rwin 2 marks.length (marks.flatMap Pm.vals)), (11, .row 2 sp.length (sp.flatMap Evt.cells) 45), (12, .kmap true true (evM l l.length))]) (fun _ => True) (fs.length + 20) trivial ?_ ?_
      · intro i hi _ ih
        refine Run.of_wpK (hc w [] none (fun _ h => by cases h)) 1000 _ ?_
        conv => whnf
        have hw4 : IntKind.i64.wrap ((fs.length : Int) + 4) = (fs.length : Int) + 4 := W_id (by omega) (by omega)
        have hi50 : i < 50 := by omega
        rw [hw4, decide_eq_true (show ((i : Nat) : Int) - 16 < (fs.length : Int) + 4 by omega)]
        conv => whnf
        refine Run.trim (T' := [(1, .opq 0), (2, .opq 1), (3, ii miss), (18, .opq 11), (19, .mp 12), (22, ii (((hitN l marks miss i) : Nat) : Int)), (23, ii (((i : Nat) : Int) - 16)), (24, ii (cntT l marks (((i : Nat) : Int) - 16) 0)), (118, .opq 1), (119, ii (marks.length : Int)), (120, ii ((0 : Nat) : Int))]) (M' := [(0, .rwin 1 fs.length vs), (1, .rwin 2 marks.length (marks.flatMap Pm.vals)), (11, .row 2 sp.length (sp.flatMap Evt.cells) 45), (12, .kmap true true (evM l l.length))]) 13 ⟨⟨rfl, (show 0 < 13 by decide)⟩, ⟨rfl, (show 1 < 13 by decide)⟩, ⟨rfl, trivial⟩, ⟨rfl, (show 11 < 13 by decide)⟩, ⟨rfl, (show 12 < 13 by decide)⟩, ⟨rfl, trivial⟩, ⟨rfl, trivial⟩, ⟨rfl, trivial⟩, ⟨rfl, (show 1 < 13 by decide)⟩, ⟨rfl, trivial⟩, ⟨rfl, trivial⟩, trivial⟩ ⟨⟨rfl, by omega, trivial⟩, ⟨rfl, by omega, trivial⟩, ⟨rfl, by omega, scs_evts _ _⟩, ⟨rfl, by omega, trivial⟩, trivial⟩ (fun p hp => by cases hp) ?_
        refine Run.upToJ (T := fun j => [(1, .opq 0), (2, .opq 1), (3, ii miss), (18, .opq 11), (19, .mp 12), (22, ii (((hitN l marks miss i) : Nat) : Int)), (23, ii (((i : Nat) : Int) - 16)), (24, ii (cntT l marks (((i : Nat) : Int) - 16) j)), (118, .opq 1), (119, ii (marks.length : Int)), (120, ii ((j : Nat) : Int))]) (M := fun j => [(0, .rwin 1 fs.length vs), (1, .rwin 2 marks.length (marks.flatMap Pm.vals)), (11, .row 2 sp.length (sp.flatMap Evt.cells) 45), (12, .kmap true true (evM l l.length))]) (fun _ => True) marks.length trivial ?_ ?_
        · intro j hj _ ih2
          refine Run.of_wpK (hc w [] none (fun _ h => by cases h)) 1000 _ ?_
          conv => whnf
          rw [decide_eq_true (show ((j : Nat) : Int) < (marks.length : Int) by omega)]
          conv => whnf
          refine ⟨by omega, ?_⟩
          conv => whnf
          rw [opF_loadW (f := Pm.vals) (l := marks) j rfl rfl rfl rfl rfl Pm.vlen (by rw [idx_nat]) hj]
          conv => whnf
          have hgj : marks.getD j pm0 = marks[j] := by simp [List.getD_eq_getElem?_getD, hj]
          have hct : cntT l marks (((i : Nat) : Int) - 16) (j + 1) = if (kget (evM l l.length) (.p (W ((((i : Nat) : Int) - 16) + marks[j].off)) marks[j].inp)).isSome = true then W (cntT l marks (((i : Nat) : Int) - 16) j + 1) else cntT l marks (((i : Nat) : Int) - 16) j := by
            show (if _ then _ else _) = _
            rw [hgj]
          cases hq : kget (evM l l.length) (.p (W ((((i : Nat) : Int) - 16) + marks[j].off)) marks[j].inp) with
          | none =>
            rw [hq] at hct
            rw [show kget (evM l l.length) (.p (IntKind.i64.wrap ((((i : Nat) : Int) - 16) + marks[j].off)) marks[j].inp) = none from hq]
            conv => whnf
            exact Run.trim (T' := [(1, .opq 0), (2, .opq 1), (3, ii miss), (18, .opq 11), (19, .mp 12), (22, ii (((hitN l marks miss i) : Nat) : Int)), (23, ii (((i : Nat) : Int) - 16)), (24, ii (cntT l marks (((i : Nat) : Int) - 16) (j + 1))), (118, .opq 1), (119, ii (marks.length : Int)), (120, ii (((j + 1) : Nat) : Int))]) (M' := [(0, .rwin 1 fs.length vs), (1, .rwin 2 marks.length (marks.flatMap Pm.vals)), (11, .row 2 sp.length (sp.flatMap Evt.cells) 45), (12, .kmap true true (evM l l.length))]) 13 ⟨⟨rfl, (show 0 < 13 by decide)⟩, ⟨rfl, (show 1 < 13 by decide)⟩, ⟨rfl, trivial⟩, ⟨rfl, (show 11 < 13 by decide)⟩, ⟨rfl, (show 12 < 13 by decide)⟩, ⟨rfl, trivial⟩, ⟨rfl, trivial⟩, ⟨by rw [hct]; rfl, trivial⟩, ⟨rfl, (show 1 < 13 by decide)⟩, ⟨rfl, trivial⟩, ⟨congrArg some (congrArg ii (wrap_succ (by omega))), trivial⟩, trivial⟩ ⟨⟨rfl, by omega, trivial⟩, ⟨rfl, by omega, trivial⟩, ⟨rfl, by omega, scs_evts _ _⟩, ⟨rfl, by omega, trivial⟩, trivial⟩ (fun p hp => by cases hp) (ih2 trivial)
          | some u =>
            obtain rfl := evM_val _ _ _ _ hq
            rw [hq] at hct
            rw [show kget (evM l l.length) (.p (IntKind.i64.wrap ((((i : Nat) : Int) - 16) + marks[j].off)) marks[j].inp) = some (.bool true) from hq]
            conv => whnf
            exact Run.trim (T' := [(1, .opq 0), (2, .opq 1), (3, ii miss), (18, .opq 11), (19, .mp 12), (22, ii (((hitN l marks miss i) : Nat) : Int)), (23, ii (((i : Nat) : Int) - 16)), (24, ii (cntT l marks (((i : Nat) : Int) - 16) (j + 1))), (118, .opq 1), (119, ii (marks.length : Int)), (120, ii (((j + 1) : Nat) : Int))]) (M' := [(0, .rwin 1 fs.length vs), (1, .rwin 2 marks.length (marks.flatMap Pm.vals)), (11, .row 2 sp.length (sp.flatMap Evt.cells) 45), (12, .kmap true true (evM l l.length))]) 13 ⟨⟨rfl, (show 0 < 13 by decide)⟩, ⟨rfl, (show 1 < 13 by decide)⟩, ⟨rfl, trivial⟩, ⟨rfl, (show 11 < 13 by decide)⟩, ⟨rfl, (show 12 < 13 by decide)⟩, ⟨rfl, trivial⟩, ⟨rfl, trivial⟩, ⟨by rw [hct]; rfl, trivial⟩, ⟨rfl, (show 1 < 13 by decide)⟩, ⟨rfl, trivial⟩, ⟨congrArg some (congrArg ii (wrap_succ (by omega))), trivial⟩, trivial⟩ ⟨⟨rfl, by omega, trivial⟩, ⟨rfl, by omega, trivial⟩, ⟨rfl, by omega, scs_evts _ _⟩, ⟨rfl, by omega, trivial⟩, trivial⟩ (fun p hp => by cases hp) (ih2 trivial)

        · intro _
          refine Run.of_wpK (hc w [] none (fun _ h => by cases h)) 1000 _ ?_
          conv => whnf
          rw [decide_eq_false (show ¬ ((marks.length : Nat) : Int) < (marks.length : Int) by omega)]
          conv => whnf
          have hhs : hitN l marks miss (i + 1) = if hitT l marks miss i = true then hitN l marks miss i + 1 else hitN l marks miss i := rfl
          have hh : hitT l marks miss i = !decide (cntT l marks (((i : Nat) : Int) - 16) marks.length < W ((marks.length : Int) - miss)) := rfl
          have hhle := hitN_le l marks miss i
          cases e : decide (cntT l marks (((i : Nat) : Int) - 16) marks.length < IntKind.i64.wrap ((marks.length : Int) - miss))
          case true =>
            have hh2 : hitT l marks miss i = false := by rw [hh]; show (!decide (_ < IntKind.i64.wrap _)) = false; rw [e]; rfl
            rw [if_neg (by rw [hh2]; decide)] at hhs
            conv => whnf
            exact Run.trim (T' := [(1, .opq 0), (2, .opq 1), (3, ii miss), (18, .opq 11), (19, .mp 12), (22, ii (((hitN l marks miss (i + 1)) : Nat) : Int)), (23, ii ((((i + 1) : Nat) : Int) - 16))]) (M' := [(0, .rwin 1 fs.length vs), (1, .rwin 2 marks.length (marks.flatMap Pm.vals)), (11, .row 2 sp.length (sp.flatMap Evt.cells) 45), (12, .kmap true true (evM l l.length))]) 13 ⟨⟨rfl, (show 0 < 13 by decide)⟩, ⟨rfl, (show 1 < 13 by decide)⟩, ⟨rfl, trivial⟩, ⟨rfl, (show 11 < 13 by decide)⟩, ⟨rfl, (show 12 < 13 by decide)⟩, ⟨by rw [hhs]; rfl, trivial⟩, ⟨congrArg some (congrArg ii (show IntKind.i64.wrap (((i : Nat) : Int) - 16 + 1) = ((i + 1 : Nat) : Int) - 16 by rw [show ((i : Nat) : Int) - 16 + 1 = ((i + 1 : Nat) : Int) - 16 by omega]; exact W_id (by omega) (by omega))), trivial⟩, trivial⟩ ⟨⟨rfl, by omega, trivial⟩, ⟨rfl, by omega, trivial⟩, ⟨rfl, by omega, scs_evts _ _⟩, ⟨rfl, by omega, trivial⟩, trivial⟩ (fun p hp => by cases hp) (ih trivial)
          case false =>
            have hh2 : hitT l marks miss i = true := by rw [hh]; show (!decide (_ < IntKind.i64.wrap _)) = true; rw [e]; rfl
            rw [if_pos hh2] at hhs
            have hlt := hsp.lt hi hh2
            have hat := hsp.at' i hi hh2
            have hge : sp[hitN l marks miss i] = ⟨(i : Int), 0⟩ := by rw [← hat]; simp [List.getD_eq_getElem?_getD, hlt]
            conv => whnf
            rw [decide_eq_false (show ¬ (sp.length : Int) ≤ ((hitN l marks miss i : Nat) : Int) by omega)]
            conv => whnf
            refine ⟨by omega, ?_⟩
            conv => whnf
            rw [opF_loadR (f := Evt.cells) (l := sp) (hitN l marks miss i) rfl rfl rfl rfl rfl (fun _ => rfl) (by rw [idx_nat]) hlt, hge]
            conv => whnf
            rw [show (!((i : Int) == IntKind.i64.wrap (((i : Nat) : Int) - 16 + 16) && ((0 : Int) == 0 && true))) = false by rw [show IntKind.i64.wrap (((i : Nat) : Int) - 16 + 16) = (i : Int) from by rw [show ((i : Nat) : Int) - 16 + 16 = (i : Int) by omega]; exact W_id (by omega) (by omega)]; simp]
            conv => whnf
            exact Run.trim (T' := [(1, .opq 0), (2, .opq 1), (3, ii miss), (18, .opq 11), (19, .mp 12), (22, ii (((hitN l marks miss (i + 1)) : Nat) : Int)), (23, ii ((((i + 1) : Nat) : Int) - 16))]) (M' := [(0, .rwin 1 fs.length vs), (1, .rwin 2 marks.length (marks.flatMap Pm.vals)), (11, .row 2 sp.length (sp.flatMap Evt.cells) 45), (12, .kmap true true (evM l l.length))]) 13 ⟨⟨rfl, (show 0 < 13 by decide)⟩, ⟨rfl, (show 1 < 13 by decide)⟩, ⟨rfl, trivial⟩, ⟨rfl, (show 11 < 13 by decide)⟩, ⟨rfl, (show 12 < 13 by decide)⟩, ⟨by rw [hhs]; exact congrArg some (congrArg ii (wrap_succ (by omega))), trivial⟩, ⟨congrArg some (congrArg ii (show IntKind.i64.wrap (((i : Nat) : Int) - 16 + 1) = ((i + 1 : Nat) : Int) - 16 by rw [show ((i : Nat) : Int) - 16 + 1 = ((i + 1 : Nat) : Int) - 16 by omega]; exact W_id (by omega) (by omega))), trivial⟩, trivial⟩ ⟨⟨rfl, by omega, trivial⟩, ⟨rfl, by omega, trivial⟩, ⟨rfl, by omega, scs_evts _ _⟩, ⟨rfl, by omega, trivial⟩, trivial⟩ (fun p hp => by cases hp) (ih trivial)

      · intro _
        refine Run.of_wpK (hc w [] none (fun _ h => by cases h)) 1000 _ ?_
        conv => whnf
        have hw4 : IntKind.i64.wrap ((fs.length : Int) + 4) = (fs.length : Int) + 4 := W_id (by omega) (by omega)
        rw [hw4, decide_eq_false (show ¬ ((fs.length + 20 : Nat) : Int) - 16 < (fs.length : Int) + 4 by omega)]
        conv => whnf
        exact ⟨fun ρ w' hW _ => ⟨by rw [hsp.len]; show Ending.returned (.bool (((hitN l marks miss (fs.length + 20) : Nat) : Int) == ((hitN l marks miss (fs.length + 20) : Nat) : Int))) = _; simp, hW.toExt⟩⟩
end Go.Proofs.Ythaigkamfnjfbaa
namespace Go.Sx
set_option maxRecDepth 100000
set_option maxHeartbeats 2000000
open Go
def Fz (r : Nat) (v : Value) (a b : SV) : Prop := b = a ∨ (a = .opq r ∧ b = .v v)
def FzL (r : Nat) (v : Value) : List SV → List SV → Prop
  | [], [] => True
  | a :: l, b :: l' => Fz r v a b ∧ FzL r v l l'
  | _, _ => False
def FzO (r : Nat) (v : Value) (o o' : SObj) : Prop := o' = o ∨ (∃ cs cs' t, o = .cells cs t ∧ o' = .cells cs' t ∧ FzL r v cs cs') ∨ ∃ e m cs cs' t, o = .row e m cs t ∧ o' = .row e m cs' t ∧ FzL r v cs cs'
theorem FzL.app {r : Nat} {v : Value} : ∀ (l : List SV) {a b : SV}, Fz r v a b → FzL r v (l ++ [a]) (l ++ [b])
  | [], _, _, h => ⟨h, trivial⟩
  | _ :: l, _, _, h => ⟨.inl rfl, FzL.app l h⟩
theorem Fz.conc {ρ : Env} {r : Nat} {a b : SV} (h : Fz r ((SV.opq r).conc ρ) a b) : b.conc ρ = a.conc ρ := by
  rcases h with rfl | ⟨rfl, rfl⟩ <;> rfl
theorem Fz.sc {S : Nat → Prop} {r : Nat} {v : Value} {a b : SV} (h : Fz r v a b) (hs : a.sc S) : b.sc S := by
  rcases h with rfl | ⟨rfl, rfl⟩
  · exact hs
  · trivial
theorem FzL.conc {ρ : Env} {r : Nat} : ∀ {l l' : List SV}, FzL r ((SV.opq r).conc ρ) l l' → SV.concs ρ l' = SV.concs ρ l
  | [], [], _ => rfl
  | _ :: _, _ :: _, h => by simp only [SV.concs, Fz.conc h.1, FzL.conc h.2]
theorem FzL.sc {S : Nat → Prop} {r : Nat} {v : Value} : ∀ {l l' : List SV}, FzL r v l l' → SV.scs S l → SV.scs S l'
  | [], [], _, h => h
  | _ :: _, _ :: _, h, hs => ⟨Fz.sc h.1 hs.1, FzL.sc h.2 hs.2⟩
theorem FzL.len {r : Nat} {v : Value} : ∀ {l l' : List SV}, FzL r v l l' → l'.length = l.length
  | [], [], _ => rfl
  | _ :: _, _ :: _, h => by simp [FzL.len h.2]
/-- A told slice is told as an actual value from now on, and nobody writes to it any more; the other numbers are told anew. -/
theorem Run.freeze {c : Cx} {T : List (Nat × SV)} {M : List (Nat × SObj)} {n : Nat} {D : List Deferred} {todo : List Item} {R : Ending → World → Prop} (rn : Nat → Nat) (n' r : Nat) {e m : Nat} {xs : List Value} {t : TypeId} (hr : look M (rn r) = some (.row e m (xs.map .v) t)) (he : 0 < e)
    (is : List Nat) (M1 : List (Nat × SObj)) (his : ∀ i ∈ is, i < n' ∧ rn i ≠ rn r ∧ ∃ y ∈ M1, y.1 = i) (hM1 : ∀ x ∈ M1, x.1 < n' ∧ x.2.sc (· < n') ∧ look M (rn x.1) = some (x.2.ren rn) ∧ (x.1 ∈ is ∨ ∀ ρ, ¬ x.2.occ ρ x.1) ∧ (x.2.wnd = true → x.1 ∉ is))
    (hinj : ∀ x ∈ M1, ∀ y ∈ M1, x.1 ≠ y.1 → rn x.1 ≠ rn y.1) (T' : Value → List (Nat × SV)) (M' : Value → List (Nat × SObj))
    (hT : ∀ v, ∀ x ∈ T' v, ∃ u, look T x.1 = some (SV.ren rn u) ∧ u.sc (· < n') ∧ Fz r v u x.2) (hM : ∀ v, ∀ x ∈ M' v, ∃ o, look M1 x.1 = some o ∧ FzO r v o x.2)
    (h : ∀ v w' L', RowsAt w' v e m xs → (∀ b, v.ownBlock = some b → (c.w0.heap.size ≤ b ∨ ∃ q ∈ c.L, q.2 = b) ∧ ∀ p ∈ L', p.2 ≠ b) → (∀ g, g < c.w0.heap.size → (∀ p ∈ c.L, p.2 ≠ g) → w'.heap[g]? = c.w0.heap[g]?) → c.w0.heap.size ≤ w'.heap.size → w'.os = c.w0.os → w'.tape = c.w0.tape → w'.output = c.w0.output →
      (∀ p ∈ L', p.1 ∈ is ∧ ((∃ q ∈ c.L, q.2 = p.2) ∨ c.w0.heap.size ≤ p.2)) → Run { c with w0 := w', L := L' } ⟨T' v, M' v, n', D, todo⟩ R) : Run c ⟨T, M, n, D, todo⟩ R := by
  classical
  refine ⟨fun ρ a w hi => ?_⟩
  have hrow := hi.wi.rowsAtR hr he
  rw [concs_v] at hrow
  let is2 := is.filter fun i => decide (∃ o, look M (rn i) = some o ∧ o.occ ρ (rn i))
  have his2 : ∀ i, i ∈ is2 ↔ i ∈ is ∧ ∃ o, look M (rn i) = some o ∧ o.occ ρ (rn i) := fun i => by simp [is2]
  have hL2 : ∀ i, i ∈ is2 → (i, ρ.s (rn i)) ∈ is2.map fun i => (i, ρ.s (rn i)) := fun i hi => List.mem_map.2 ⟨i, hi, rfl⟩
  have hWn := hi.wi.again (F := fun _ => False) ((Ext.refl w).modF _) rn (is2.map fun i => (i, ρ.s (rn i))) M1 n' (fun p hp => by
    obtain ⟨i, hi', rfl⟩ := List.mem_map.1 hp
    obtain ⟨k1, o, k2, k3⟩ := (his2 i).1 hi'
    obtain ⟨g1, _, g3⟩ := his i k1
    exact ⟨g1, rfl, g3, o, k2, k3⟩) (fun x hx => by
    obtain ⟨m1, m2, m3, m4, m5⟩ := hM1 x hx
    refine ⟨m1, m2, fun ho => ?_, _, m3, Conv.refl _, ?_, fun hw p hp => ?_⟩
    · rcases m4 with m4 | m4
      · exact ⟨_, hL2 x.1 ((his2 _).2 ⟨m4, _, m3, occ_ren.2 ho⟩), rfl⟩
      · exact absurd ho (m4 _)
    · cases x.2 <;> simp [SObj.away, SObj.ren]
    · obtain ⟨i, hi', rfl⟩ := List.mem_map.1 hp
      intro he
      simp only at he
      exact m5 hw (by rw [← he]; exact ((his2 i).1 hi').1)) hinj
  have hocc : ∀ {i : Nat} {o o' : SObj}, FzO r ((SV.opq r).conc (ρ.ren rn)) o o' → (o'.occ (ρ.ren rn) i ↔ o.occ (ρ.ren rn) i) := by
    intro i o o' ho
    rcases ho with rfl | ⟨cs, cs', t, rfl, rfl, _⟩ | ⟨e, m, cs, cs', t, rfl, rfl, _⟩ <;> exact Iff.rfl
  have hWf : WI w (is2.map fun i => (i, ρ.s (rn i))) (ρ.ren rn) (look (M' ((SV.opq r).conc (ρ.ren rn)))) (· < n') w := by
    have hmem : ∀ i o', look (M' ((SV.opq r).conc (ρ.ren rn))) i = some o' → ∃ o, look M1 i = some o ∧ FzO r ((SV.opq r).conc (ρ.ren rn)) o o' := fun i o' ho => hM _ _ (look_mem ho)
    refine ⟨fun i o' ho => ?_, fun i j o o' h1 h2 hne c1 c2 => ?_, fun i o ho hc => ?_, hWn.lid, hWn.keep, hWn.size, hWn.os, hWn.tape, hWn.output⟩
    · obtain ⟨o, h1, h2⟩ := hmem i o' ho
      obtain ⟨g1, g2, g3⟩ := hWn.mem i o h1
      rcases h2 with rfl | ⟨cs, cs', t, rfl, rfl, hl⟩ | ⟨e, m, cs, cs', t, rfl, rfl, hl⟩
      · exact ⟨g1, g2, g3⟩
      · refine ⟨g1, FzL.sc hl g2, ?_⟩
        simp only [SObj.holds] at g3 ⊢
        rw [FzL.conc hl]; exact g3
      · refine ⟨g1, FzL.sc hl g2, ?_⟩
        simp only [SObj.holds] at g3 ⊢
        rw [FzL.conc hl, FzL.len hl]; exact g3
    · obtain ⟨o1, k1, k2⟩ := hmem i o h1
      obtain ⟨o2, k3, k4⟩ := hmem j o' h2
      exact hWn.dist i j o1 o2 k1 k3 hne ((hocc k2).1 c1) ((hocc k4).1 c2)
    · obtain ⟨o1, k1, k2⟩ := hmem i o ho
      exact hWn.new i o1 k1 ((hocc k2).1 hc)
  refine (h ((SV.opq r).conc (ρ.ren rn)) w _ hrow (fun b hb => ?_) (fun g hg hL => hi.wi.keep g hg hL) hi.wi.size hi.wi.os hi.wi.tape hi.wi.output (fun p hp => ?_)).go (ρ.ren rn) a w ⟨hi.sz, fun tt u hu => ?_, hi.df, hWf⟩
  · have hoc : (SObj.row e m (xs.map .v) t).occ ρ (rn r) ∧ ρ.s (rn r) = b := by
      have hb : (Value.slice (ρ.h (rn r)).1 (ρ.h (rn r)).2.1 (ρ.h (rn r)).2.2).ownBlock = some b := hb
      obtain ⟨_, _, _, _, hh⟩ := hi.wi.mem (rn r) _ hr
      rcases hh with ⟨hh, _⟩ | ⟨cap, sp, hh, _⟩
      · rw [hh] at hb; cases hb
      · rw [hh] at hb
        exact ⟨(by show (ρ.h (rn r)).1 ≠ none; rw [hh]; exact Option.some_ne_none _), Option.some.inj hb⟩
    refine ⟨?_, fun p hp => ?_⟩
    · rcases hi.wi.new (rn r) _ hr hoc.1 with ⟨q, hq, hqe⟩ | hge
      · exact .inr ⟨q, hq, by rw [hqe]; exact hoc.2⟩
      · exact .inl (by rw [← hoc.2]; exact hge)
    · obtain ⟨i, hi', rfl⟩ := List.mem_map.1 hp
      obtain ⟨k1, o, k2, k3⟩ := (his2 i).1 hi'
      show ρ.s (rn i) ≠ b
      rw [← hoc.2]
      exact hi.wi.dist (rn i) (rn r) o _ k2 hr (his i k1).2.1 k3 hoc.1
  · obtain ⟨i, hi', rfl⟩ := List.mem_map.1 hp
    obtain ⟨k1, o, k2, k3⟩ := (his2 i).1 hi'
    exact ⟨k1, hi.wi.new (rn i) o k2 k3⟩
  · obtain ⟨u0, k1, k0, k2⟩ := hT _ _ (look_mem hu)
    obtain ⟨g1, g2, _⟩ := hi.tm tt _ k1
    exact ⟨g1, by rw [Fz.conc k2, g2, conc_ren], Fz.sc k2 k0⟩
end Go.Sx
namespace Go.Proofs.Ythaigkamfnjfbaa
open Go.Sx
set_option maxRecDepth 100000
set_option maxHeartbeats 16000000
def Pm.cells (x : Pm) : List SV := [ii x.inp, ii x.off]
theorem pms_v (l : List Pm) : l.flatMap Pm.cells = (l.flatMap Pm.vals).map .v := by
  induction l with
  | nil => rfl
  | cons a l ih => rw [List.flatMap_cons, List.flatMap_cons, List.map_append, ih]; rfl
theorem scs_pms (S : Nat → Prop) (l : List Pm) : SV.scs S (l.flatMap Pm.cells) := by rw [pms_v]; exact scs_v _ _
theorem fix_pm {r : Nat → Nat} (m : Nat) (l : List Pm) (t : TypeId) : (SObj.row 2 m (l.flatMap Pm.cells) t).ren r = .row 2 m (l.flatMap Pm.cells) t := oren_fix (S := fun _ => False) (fun _ hi => hi.elim) (o := .row 2 m (l.flatMap Pm.cells) t) (scs_pms _ _)
theorem fix_v {r : Nat → Nat} (e m : Nat) (l : List Value) (t : TypeId) : (SObj.row e m (l.map .v) t).ren r = .row e m (l.map .v) t := oren_fix (S := fun _ => False) (fun _ hi => hi.elim) (o := .row e m (l.map .v) t) (scs_v _ _)
theorem rens_app (r : Nat → Nat) : ∀ l l' : List SV, SV.rens r (l ++ l') = SV.rens r l ++ SV.rens r l'
  | [], _ => rfl
  | a :: l, l' => by simp only [List.cons_append, SV.rens, rens_app r l l']
theorem rens_v (r : Nat → Nat) : ∀ l : List Value, SV.rens r (l.map .v) = l.map .v
  | [] => rfl
  | a :: l => by simp only [List.map_cons, SV.rens, SV.ren, rens_v r l]
def filmC (wd hg st : Int) : Cam := ⟨W (1 + (W wd).tmod 4), W (1 + (W hg).tmod 4), W (1 + (W st).tmod 100)⟩
def frV (lv : List Int) (n t p : Nat) : Int := W (lv.getD ((W (W ((t : Int) * (n : Int)) + (p : Int))).tmod (lv.length : Int)).toNat 0)
def frY (lv : List Int) (n t : Nat) : Nat → List Int
  | 0 => List.replicate n 0
  | p + 1 => if 0 < lv.length then (frY lv n t p).set p (frV lv n t p) else frY lv n t p
theorem frY_len (lv : List Int) (n t : Nat) : ∀ p, (frY lv n t p).length = n
  | 0 => by simp [frY]
  | p + 1 => by
    unfold frY
    split
    · rw [List.length_set, frY_len lv n t p]
    · exact frY_len lv n t p
def mkP (n : Nat) (a : Int × Int) : Pm := ⟨(W a.1).tmod (W (2 * (n : Int))), (W a.2).tmod 16⟩
def mkStep (n : Nat) (s : List Pm × List (Key × Value)) (a : Int × Int) : List Pm × List (Key × Value) :=
  if s.1.length < 8 ∧ kget s.2 (.p (mkP n a).inp (mkP n a).off) = none then (s.1 ++ [mkP n a], kput s.2 (.p (mkP n a).inp (mkP n a).off) (.bool true)) else s
def mkS (n : Nat) (mk : List (Int × Int)) : Nat → List Pm × List (Key × Value)
  | 0 => ([], [])
  | j + 1 => mkStep n (mkS n mk j) (mk.getD j (0, 0))
theorem mkS_len (n : Nat) (mk : List (Int × Int)) : ∀ j, (mkS n mk j).1.length ≤ 8
  | 0 => by simp [mkS]
  | j + 1 => by
    have := mkS_len n mk j
    unfold mkS mkStep
    split
    · rename_i h; simp; omega
    · exact this
theorem mkS_val (n : Nat) (mk : List (Int × Int)) : ∀ j k v, kget (mkS n mk j).2 k = some v → v = .bool true
  | 0, k, v, h => by cases h
  | j + 1, k, v, h => by
    unfold mkS mkStep at h
    split at h
    · by_cases e : k = .p (mkP n (mk.getD j (0, 0))).inp (mkP n (mk.getD j (0, 0))).off
      · rw [e, kget_put_same] at h; exact (Option.some.inj h).symm
      · rw [kget_put_other _ _ _ _ e] at h; exact mkS_val n mk j k v h
    · exact mkS_val n mk j k v h
def prV (p : Int × Int) : List Value := [u8v p.1, u8v p.2]
/-- What is plain of a camera's events and a pattern. -/
def SeenT : Prop := ∀ (c : Cam) (fs : List (List Int)) (marks : List Pm) (miss : Int), CamOK c → c.wide ≤ 4 → c.high ≤ 4 → (∀ f ∈ fs, FrameOK c f) → 1 ≤ fs.length → fs.length ≤ 30 → PatOK (W (W (2 * c.wide) * c.high)) marks miss →
  ∃ pos mid q1 q2, StreamOK (watch c fs) ∧ UnpOK (watch c fs) pos mid q1 q2 ∧ prepChk ⟨[patP marks miss], W (W (2 * c.wide) * c.high), marks.map patY⟩ (watch c fs) ((fs.length + 20 : Nat) : Int) 10000 = 0 ∧
    SpOK (watch c fs) marks miss (fs.length + 20) (nO ⟨[patP marks miss], W (W (2 * c.wide) * c.high), marks.map patY⟩ (watch c fs) (fs.length + 20))
/-- The frames are made: what is so behind some of them. -/
structure FrJ (w : World) (lv : List Int) (n i : Nat) (x : World × List (Nat × Nat) × List Value) : Prop where
  len : x.2.2.length = i
  rows : ∀ j (h : j < x.2.2.length), RowsAt x.1 x.2.2[j] 1 n (ints (frY lv n j n)) ∧ ∀ b, x.2.2[j].ownBlock = some b → ∀ p ∈ x.2.1, p.2 ≠ b
  ext : Ext w x.1
  own : ∀ p ∈ x.2.1, (p.1 = 2 ∨ p.1 = 3 ∨ p.1 = 4) ∧ w.heap.size ≤ p.2
theorem _root_.Go.Sx.RowsAt.blkLt {w : World} {v : Value} {e n : Nat} {vs : List Value} (h : RowsAt w v e n vs) (hn : 0 < n) {b : Nat} (hb : v.ownBlock = some b) : b < w.heap.size := by
  obtain ⟨_, p, cap, rfl, _, h3⟩ := h
  rcases h3 with h3 | ⟨blk, off, rfl, h4, _⟩
  · omega
  · obtain rfl := Option.some.inj hb; exact h4
theorem FrJ.next {w : World} {lv : List Int} {n i : Nat} {x : World × List (Nat × Nat) × List Value} (h : FrJ w lv n i x) (hn : 0 < n) {v : Value} {w' : World} {L' : List (Nat × Nat)} (h1 : RowsAt w' v 1 n (ints (frY lv n i n))) (h2 : ∀ b, v.ownBlock = some b → ∀ p ∈ L', p.2 ≠ b)
    (h3 : ∀ g, g < x.1.heap.size → (∀ p ∈ x.2.1, p.2 ≠ g) → w'.heap[g]? = x.1.heap[g]?) (h4 : x.1.heap.size ≤ w'.heap.size) (h5 : w'.os = x.1.os) (h6 : w'.tape = x.1.tape) (h7 : w'.output = x.1.output) (h8 : ∀ p ∈ L', p.1 ∈ [2, 3, 4] ∧ ((∃ q ∈ x.2.1, q.2 = p.2) ∨ x.1.heap.size ≤ p.2)) : FrJ w lv n (i + 1) (w', L', x.2.2 ++ [v]) where
  len := by show (x.2.2 ++ [v]).length = _; rw [List.length_append, h.len]; rfl
  rows := fun j hj => by
    have hj' : j < (x.2.2 ++ [v]).length := hj
    show RowsAt w' (x.2.2 ++ [v])[j] 1 n (ints (frY lv n j n)) ∧ ∀ b, ((x.2.2 ++ [v])[j]).ownBlock = some b → ∀ p ∈ L', p.2 ≠ b
    rcases Nat.lt_or_ge j x.2.2.length with hl | hl
    · rw [List.getElem_append_left hl]
      obtain ⟨g1, g2⟩ := h.rows j hl
      have hlt : ∀ b, x.2.2[j].ownBlock = some b → b < x.1.heap.size := fun b hb => g1.blkLt hn hb
      refine ⟨g1.move h4 fun b hb => h3 b (hlt b hb) (g2 b hb), fun b hb p hp => ?_⟩
      rcases (h8 p hp).2 with ⟨q, hq, hqe⟩ | hge
      · rw [← hqe]; exact g2 b hb q hq
      · have := hlt b hb; omega
    · have : j = i := by rw [List.length_append, h.len] at hj'; rw [h.len] at hl; simp at hj'; omega
      subst this
      have e : (x.2.2 ++ [v])[j] = v := by rw [List.getElem_append_right hl]; simp [h.len]
      rw [e]
      exact ⟨h1, h2⟩
  ext := ⟨fun k hk => by
      have hs := h.ext.size
      rw [h3 k (by omega) (fun p hp => by have := (h.own p hp).2; omega)]
      exact h.ext.keep k hk, Nat.le_trans h.ext.size h4, h5.trans h.ext.os, h6.trans h.ext.tape, h7.trans h.ext.output⟩
  own := fun p hp => by
    obtain ⟨g1, g2⟩ := h8 p hp
    refine ⟨by simpa using g1, ?_⟩
    rcases g2 with ⟨q, hq, hqe⟩ | hge
    · rw [← hqe]; exact (h.own q hq).2
    · exact Nat.le_trans h.ext.size hge
theorem tm_range (a : Int) (m : Int) (ha : 0 ≤ a) (hm : 0 < m) : 0 ≤ a.tmod m ∧ a.tmod m < m := ⟨Int.tmod_nonneg _ ha, Int.tmod_lt_of_pos _ hm⟩
theorem wu_nonneg {a : Int} (h : 0 ≤ a) (h1 : a ≤ 255) : 0 ≤ W a := by rw [W_id (by omega) (by omega)]; exact h
theorem filmC_ok {wd hg st : Int} (h0 : 0 ≤ wd ∧ wd ≤ 255) (h1 : 0 ≤ hg ∧ hg ≤ 255) (h2 : 0 ≤ st ∧ st ≤ 255) : CamOK (filmC wd hg st) ∧ (filmC wd hg st).wide ≤ 4 ∧ (filmC wd hg st).high ≤ 4 := by
  have a0 := tm_range (W wd) 4 (wu_nonneg h0.1 h0.2) (by decide)
  have a1 := tm_range (W hg) 4 (wu_nonneg h1.1 h1.2) (by decide)
  have a2 := tm_range (W st) 100 (wu_nonneg h2.1 h2.2) (by decide)
  have e0 : (filmC wd hg st).wide = 1 + (W wd).tmod 4 := W_id (by omega) (by omega)
  have e1 : (filmC wd hg st).high = 1 + (W hg).tmod 4 := W_id (by omega) (by omega)
  have e2 : (filmC wd hg st).step = 1 + (W st).tmod 100 := W_id (by omega) (by omega)
  refine ⟨⟨?_, ?_, ?_, ?_, ?_, ?_⟩, ?_, ?_⟩ <;> omega
theorem small_pix {c : Cam} (h : CamOK c) (hw : c.wide ≤ 4) (hh : c.high ≤ 4) : (c.pix : Int) = c.wide * c.high ∧ 1 ≤ c.pix ∧ c.pix ≤ 16 ∧ W (W (2 * c.wide) * c.high) = 2 * (c.pix : Int) ∧ W (2 * (c.pix : Int)) = 2 * (c.pix : Int) ∧ W (c.wide * c.high) = (c.pix : Int) := by
  obtain ⟨e1, e2, _⟩ := h.pix
  have hw0 := h.w0
  have hh0 := h.h0
  have h16 : c.wide * c.high ≤ 4 * 4 := Int.mul_le_mul hw hh (by omega) (by decide)
  have e3 : W (2 * c.wide) = 2 * c.wide := W_id (by omega) (by omega)
  have e4 : 2 * c.wide * c.high = 2 * (c.pix : Int) := by rw [Int.mul_assoc, e1]
  refine ⟨e1, e2, by omega, ?_, W_id (by omega) (by omega), ?_⟩
  · rw [e3, e4]; exact W_id (by omega) (by omega)
  · rw [← e1]; exact W_id (by omega) (by omega)
theorem frY_ok {lv : List Int} {n t : Nat} (hb : ∀ x ∈ lv, 0 ≤ x ∧ x ≤ 255) : ∀ p, ∀ x ∈ frY lv n t p, 0 ≤ x ∧ x ≤ 255
  | 0, x, hx => by
    have := List.eq_of_mem_replicate hx
    omega
  | p + 1, x, hx => by
    unfold frY at hx
    split at hx
    · rcases List.mem_or_eq_of_mem_set hx with h | h
      · exact frY_ok hb p x h
      · subst h
        unfold frV
        generalize ((W (W ((t : Int) * (n : Int)) + (p : Int))).tmod (lv.length : Int)).toNat = k
        have hv : 0 ≤ lv.getD k 0 ∧ lv.getD k 0 ≤ 255 := by
          rw [List.getD_eq_getElem?_getD]
          cases hk : lv[k]? with
          | none => exact ⟨Int.le_refl 0, (show (0 : Int) ≤ 255 by decide)⟩
          | some y => exact hb y (List.mem_of_getElem? hk)
        rw [W_id (by omega) (by omega)]; exact hv
    · exact frY_ok hb p x hx
structure MkI (n : Nat) (s : List Pm × List (Key × Value)) : Prop where
  iff : ∀ y : Pm, (∃ v, kget s.2 (.p y.inp y.off) = some v) ↔ y ∈ s.1
  nd : s.1.Nodup
  rg : ∀ y ∈ s.1, 0 ≤ y.inp ∧ y.inp ≤ 2 * (n : Int) - 1 ∧ 0 ≤ y.off ∧ y.off ≤ 15
theorem mkS_inv {n : Nat} (hn : 1 ≤ n) (hn2 : n ≤ 1000) {mk : List (Int × Int)} (hm : ∀ x ∈ mk, (0 ≤ x.1 ∧ x.1 ≤ 255) ∧ (0 ≤ x.2 ∧ x.2 ≤ 255)) : ∀ j, MkI n (mkS n mk j)
  | 0 => ⟨fun y => ⟨fun ⟨v, h⟩ => (by cases h), fun h => (by cases h)⟩, List.nodup_nil, fun y h => (by cases h)⟩
  | j + 1 => by
    have ih := mkS_inv hn hn2 hm j
    unfold mkS mkStep
    split
    · rename_i h
      obtain ⟨a, ha⟩ : ∃ a, mk.getD j (0, 0) = a := ⟨_, rfl⟩
      rw [ha] at h ⊢
      obtain ⟨y0, hy0⟩ : ∃ y, mkP n a = y := ⟨_, rfl⟩
      rw [hy0] at h ⊢
      have hnm : y0 ∉ (mkS n mk j).1 := fun hm2 => by
        obtain ⟨v, hv⟩ := (ih.iff y0).2 hm2
        rw [h.2] at hv; cases hv
      have hra : (0 ≤ a.1 ∧ a.1 ≤ 255) ∧ (0 ≤ a.2 ∧ a.2 ≤ 255) := by
        rw [← ha, List.getD_eq_getElem?_getD]
        cases hk : mk[j]? with
        | none => exact ⟨⟨Int.le_refl 0, (show (0 : Int) ≤ 255 by decide)⟩, Int.le_refl 0, (show (0 : Int) ≤ 255 by decide)⟩
        | some y => exact hm y (List.mem_of_getElem? hk)
      refine ⟨fun y => ?_, ?_, fun y hy => ?_⟩
      · by_cases e : y = y0
        · subst e
          exact ⟨fun _ => by simp, fun _ => ⟨_, kget_put_same _ _ _⟩⟩
        · have e2 : (Key.p y.inp y.off) ≠ .p y0.inp y0.off := fun h => e (by cases y; cases y0; simp at h; simp [h])
          rw [kget_put_other _ _ _ _ e2, ih.iff y]
          simp [e]
      · rw [List.nodup_append]
        exact ⟨ih.nd, by simp, fun x hx z hz => by
          rw [List.mem_singleton] at hz
          subst hz
          exact fun e => hnm (e ▸ hx)⟩
      · rcases List.mem_append.1 hy with h1 | h1
        · exact ih.rg y h1
        · rw [List.mem_singleton] at h1
          rw [h1, ← hy0]
          have hw : W (2 * (n : Int)) = 2 * (n : Int) := W_id (by omega) (by omega)
          have r1 := tm_range (W a.1) (W (2 * (n : Int))) (wu_nonneg hra.1.1 hra.1.2) (by omega)
          have r2 := tm_range (W a.2) 16 (wu_nonneg hra.2.1 hra.2.2) (by decide)
          simp only [mkP]
          omega
    · exact ih
theorem mk_pat {c : Cam} (h : CamOK c) (hw : c.wide ≤ 4) (hh : c.high ≤ 4) {mk : List (Int × Int)} (hm : ∀ x ∈ mk, (0 ≤ x.1 ∧ x.1 ≤ 255) ∧ (0 ≤ x.2 ∧ x.2 ≤ 255)) {ms : Int} (h0 : 0 ≤ ms) (h1 : ms ≤ 255) {j : Nat} (hl : 0 < (mkS c.pix mk j).1.length) :
    PatOK (W (W (2 * c.wide) * c.high)) (mkS c.pix mk j).1 ((W ms).tmod ((mkS c.pix mk j).1.length : Int)) := by
  obtain ⟨e1, e2, e3, e4, e5, _⟩ := small_pix h hw hh
  have hi := mkS_inv e2 (by omega) hm j
  have hlen := mkS_len c.pix mk j
  have hr := tm_range (W ms) ((mkS c.pix mk j).1.length : Int) (wu_nonneg h0 h1) (by omega)
  rw [e4]
  obtain ⟨s, hs⟩ : ∃ s, mkS c.pix mk j = s := ⟨_, rfl⟩
  rw [hs] at hi hlen hr hl ⊢
  obtain ⟨l, m⟩ := s
  simp only at hi hlen hr hl ⊢
  have hrg : ∀ y ∈ l, 0 ≤ y.inp ∧ y.inp ≤ 2 * (c.pix : Int) - 1 ∧ 0 ≤ y.off ∧ y.off ≤ 15 := hi.rg
  have hnd : l.Nodup := hi.nd
  refine ⟨by omega, by omega, hl, by omega, fun i hi' => ?_, fun i hi' => ?_, fun i hi' => ?_, hr.1, by omega⟩
  · have := hrg _ (List.getElem_mem hi'); omega
  · have := hrg _ (List.getElem_mem hi'); omega
  · refine idxP_end fun k hk => ?_
    have hki : k < i := by simp at hk; omega
    have hkl : k < l.length := by omega
    unfold pmEq
    have hg : (l.take i).getD k pm0 = l[k] := by
      rw [List.getD_eq_getElem?_getD, List.getElem?_eq_getElem hk, List.getElem_take]; rfl
    rw [hg]
    have hne : l[k] ≠ l[i] := List.pairwise_iff_getElem.1 (List.nodup_iff_pairwise_ne.1 hnd) k i hkl hi' hki
    obtain ⟨a, ha⟩ : ∃ a, l[k] = a := ⟨_, rfl⟩
    obtain ⟨b, hb⟩ : ∃ b, l[i] = b := ⟨_, rfl⟩
    rw [ha, hb] at hne ⊢
    cases hq : (b.inp == a.inp && (b.off == a.off && true)) with
    | false => rfl
    | true =>
      simp only [Bool.and_true, Bool.and_eq_true, beq_iff_eq] at hq
      exact absurd (by cases a; cases b; simp at hq; simp [hq]) hne
theorem topSeen_walk (hS : SeenT) (wd hg st tk ms : Int) (vL : Value) (lv : List Int) (hlv : lv.length ≤ 281474976710656) (vM : Value) (mk : List (Int × Int)) (hmk : mk.length ≤ 281474976710656) (hb : ∀ x ∈ lv, 0 ≤ x ∧ x ≤ 255) (hmb : ∀ x ∈ mk, (0 ≤ x.1 ∧ x.1 ≤ 255) ∧ (0 ≤ x.2 ∧ x.2 ≤ 255)) (hwd : 0 ≤ wd ∧ wd ≤ 255) (hhg : 0 ≤ hg ∧ hg ≤ 255) (hst : 0 ≤ st ∧ st ≤ 255) (htk : 0 ≤ tk ∧ tk ≤ 255) (hms : 0 ≤ ms ∧ ms ≤ 255) (w : World) (hL : RowsAt w vL 1 lv.length (lv.map u8v)) (hM : RowsAt w vM 2 mk.length (mk.flatMap prV)) :
    Calls Try.prog 3 #[.agg #[u8v wd, u8v hg, u8v st, vL, u8v tk, vM, u8v ms]] w fun e w' => e = .returned (.bool true) ∧ Ext w w' := by
  have hc : ∀ w L' rd, (∀ p, rd = some p → p ∈ L') → Cx.ok ⟨Try.prog, tab, [(2000, fun _ _ => none)], 3, Try.f3, [], w, L', rd⟩ := fun w L' rd h => ⟨tab_ok, ⟨trivial, trivial⟩, Try.func3, mixed, h⟩
  have hrows : AllP (fun x : Value × Nat × Nat × List Value => RowsAt w x.1 x.2.1 x.2.2.1 x.2.2.2) [(vL, 1, lv.length, lv.map u8v), (vM, 2, mk.length, mk.flatMap prV)] := ⟨hL, hM, trivial⟩
  refine Run.startW (tab := tab) (pf := [(2000, fun _ _ => none)]) (cuts := []) Try.func3 rfl _ hrows [.agg [u8s wd, u8s hg, u8s st, .opq 0, u8s tk, .opq 1, u8s ms]] [.agg #[u8v wd, u8v hg, u8v st, vL, u8v tk, vM, u8v ms]] [(0, .rwin 1 lv.length (lv.map u8v)), (1, .rwin 2 mk.length (mk.flatMap prV))] 2 rfl rfl (by show [Value.agg [_, _, _, (SV.opq 0).conc _, _, (SV.opq 1).conc _, _].toArray] = _; rw [conc_rows hrows (k := 0) rfl, conc_rows hrows (k := 1) rfl]; rfl) (by simp [SV.scs, SV.sc]) rfl (Run.of_wpK (hc w [] none (fun _ h => by cases h)) 100 _ ?_)
  generalize hRR : (fun (e : Ending) (w' : World) => e = Ending.returned (.bool true) ∧ Ext w w') = RR
  conv => whnf
  have hcam2 : CamOK ⟨2, 1, 10⟩ := ⟨by decide, by decide, by decide, by decide, by decide, by decide⟩
  have hfr2 : ∀ f ∈ ([[0, 0], [20, 0], [20, 20], [0, 20]] : List (List Int)), FrameOK ⟨2, 1, 10⟩ f := by
    intro f hf
    have hf : f = [0, 0] ∨ f = [20, 0] ∨ f = [20, 20] ∨ f = [0, 20] := by simpa using hf
    rcases hf with rfl | rfl | rfl | rfl <;> exact ⟨rfl, by decide⟩
  have hwex : watch ⟨2, 1, 10⟩ [[0, 0], [20, 0], [20, 20], [0, 20]] = [⟨1, 1⟩, ⟨2, 1⟩, ⟨2, 3⟩, ⟨3, 0⟩, ⟨3, 3⟩] := by kernel_rfl
  have hpx2 : PatOK (W (W (2 * 2) * 1)) [⟨1, 0⟩, ⟨3, 1⟩] 0 := ⟨by decide, by decide, by decide, by decide, by decide, by decide, by decide, by decide, by decide⟩
  refine Run.callO (vs := [.agg [ii 2, ii 1, ii 10], .slc 8 0 4 4]) (caps := []) (fun x => .tup [x, ii 0]) (fun x => .tuple #[x, .int .i64 0]) (fun ρ w1 hW => watch_run ⟨2, 1, 10⟩ hcam2 _ [[0, 0], [20, 0], [20, 20], [0, 20]] hfr2 (by decide) (by decide) (by rw [hwex]; decide) w1 ⟨_, hW.rowsAtS (i := 8) (e := 1) (n := 4) rfl rfl (by decide), rfl, fun i h h' => by
        have hi4 : i = 0 ∨ i = 1 ∨ i = 2 ∨ i = 3 := by have : i < 4 := h; omega
        rcases hi4 with rfl | rfl | rfl | rfl
        · exact hW.rowsAtS (i := 4) (e := 1) (n := 2) rfl rfl (by decide)
        · exact hW.rowsAtS (i := 5) (e := 1) (n := 2) rfl rfl (by decide)
        · exact hW.rowsAtS (i := 6) (e := 1) (n := 2) rfl rfl (by decide)
        · exact hW.rowsAtS (i := 7) (e := 1) (n := 2) rfl rfl (by decide)⟩) (ent _ _ Try.func4 (by kernel_rfl) rfl) rfl rfl rfl rfl rfl rfl rfl (fun _ _ => rfl) (fun _ _ h => ⟨h, trivial, trivial⟩) ?_
  rw [hwex]
  refine Run.of_wpK (hc w [] none (fun _ h => by cases h)) 1000 _ ?_
  conv => whnf
  obtain ⟨pos, mid, q1, q2, k1, k2, k3, k4⟩ := hS ⟨2, 1, 10⟩ [[0, 0], [20, 0], [20, 20], [0, 20]] [⟨1, 0⟩, ⟨3, 1⟩] 0 hcam2 (by decide) (by decide) hfr2 (by decide) (by decide) hpx2
  refine Run.callE (g := 5) (vs := [.agg [ii 2, ii 1, ii 10], .slc 8 0 4 4, .slc 10 0 2 2, ii 0]) (caps := []) (.v (.bool true)) (fun ρ w1 hW => seen_run ⟨2, 1, 10⟩ hcam2 _ [[0, 0], [20, 0], [20, 20], [0, 20]] hfr2 (by decide) (by decide) _ [⟨1, 0⟩, ⟨3, 1⟩] 0 w1 ⟨_, hW.rowsAtS (i := 8) (e := 1) (n := 4) rfl rfl (by decide), rfl, fun i h h' => by
        have hi4 : i = 0 ∨ i = 1 ∨ i = 2 ∨ i = 3 := by have : i < 4 := h; omega
        rcases hi4 with rfl | rfl | rfl | rfl
        · exact hW.rowsAtS (i := 4) (e := 1) (n := 2) rfl rfl (by decide)
        · exact hW.rowsAtS (i := 5) (e := 1) (n := 2) rfl rfl (by decide)
        · exact hW.rowsAtS (i := 6) (e := 1) (n := 2) rfl rfl (by decide)
        · exact hW.rowsAtS (i := 7) (e := 1) (n := 2) rfl rfl (by decide)⟩ (hW.rowsAtS (i := 10) (e := 2) (n := 2) rfl rfl (by decide)) _ rfl k1 pos mid q1 q2 k2 hpx2 k3 k4) (ent _ _ Try.func5 (by kernel_rfl) rfl) rfl rfl rfl rfl rfl rfl rfl trivial ?_
  clear hcam2 hfr2 hwex hpx2 k1 k2 k3 k4
  refine Run.of_wpK (hc w [] none (fun _ h => by cases h)) 1000 _ ?_
  conv => whnf
  refine ⟨by decide, ?_⟩
  conv => whnf
  refine ⟨by decide, ?_⟩
  conv => whnf
  refine ⟨by decide, ?_⟩
  conv => whnf
  refine ⟨by decide, ?_⟩
  conv => whnf
  obtain ⟨hcam, hcw, hch⟩ := filmC_ok hwd hhg hst
  obtain ⟨hp1, hp2, hp3, hp4, hp5, hp6⟩ := small_pix hcam hcw hch
  have htkr := tm_range (W tk) 30 (wu_nonneg htk.1 htk.2) (by decide)
  have hnf0 : W (1 + (W tk).tmod 30) = 1 + (W tk).tmod 30 := W_id (by omega) (by omega)
  obtain ⟨nf, hnf⟩ : ∃ nf : Nat, (nf : Int) = 1 + (W tk).tmod 30 := ⟨(1 + (W tk).tmod 30).toNat, by omega⟩
  have hnf1 : 1 ≤ nf ∧ nf ≤ 30 := by omega
  rw [show IntKind.i64.wrap (1 + (IntKind.i64.wrap tk).tmod 30) = (nf : Int) from hnf0.trans hnf.symm]
  rw [show IntKind.i64.wrap (IntKind.i64.wrap (1 + (IntKind.i64.wrap wd).tmod 4) * IntKind.i64.wrap (1 + (IntKind.i64.wrap hg).tmod 4)) = ((filmC wd hg st).pix : Int) from hp6]
  refine Run.nils (T' := [(1, .ptr 2 0), (7, .ptr 11 0), (8, ii ((filmC wd hg st).pix : Int)), (9, .opq 12), (71, ii (nf : Int)), (72, ii 0)]) (M' := [(0, .rwin 1 lv.length (lv.map u8v)), (1, .rwin 2 mk.length (mk.flatMap prV)), (2, .cells [u8s wd, u8s hg, u8s st, .opq 0, u8s tk, .opq 1, u8s ms] 25), (11, .cells [ii (filmC wd hg st).wide, ii (filmC wd hg st).high, ii (filmC wd hg st).step] 27), (12, .row 1 0 [] 28)]) 1 (fun _ => .row 1 0 [] 28) (fun _ _ => .inl ⟨_, _, rfl⟩) ⟨⟨_, rfl, .inl rfl⟩, ⟨_, rfl, .inl rfl⟩, ⟨_, rfl, .inl rfl⟩, ⟨_, rfl, .inr (.inl ⟨rfl, 0, by decide, rfl⟩)⟩, ⟨_, rfl, .inl rfl⟩, ⟨_, rfl, .inl rfl⟩, trivial⟩ ⟨.inr ⟨_, rfl, .inl rfl⟩, .inr ⟨_, rfl, .inl rfl⟩, .inr ⟨_, rfl, .inl rfl⟩, .inr ⟨_, rfl, .inl rfl⟩, .inl ⟨0, by decide, rfl⟩, trivial⟩ ?_
  obtain ⟨c, hcc⟩ : ∃ c, filmC wd hg st = c := ⟨_, rfl⟩
  rw [hcc] at hcam hcw hch hp1 hp2 hp3 hp4 hp5 hp6
  rw [hcc]
  obtain ⟨n, hn⟩ : ∃ n, c.pix = n := ⟨_, rfl⟩
  rw [hn] at hp1 hp2 hp3 hp5
  rw [hn]
  refine Run.trimQ (T' := [(1, .ptr 2 0), (7, .ptr 3 0), (8, ii ((n : Nat) : Int)), (9, .opq 4), (71, ii ((nf : Nat) : Int)), (72, ii ((0 : Nat) : Int))]) (M' := [(0, .rwin 1 lv.length (lv.map u8v)), (1, .rwin 2 mk.length (mk.flatMap prV)), (2, .cells [u8s wd, u8s hg, u8s st, .opq 0, u8s tk, .opq 1, u8s ms] 25), (3, .cells [ii c.wide, ii c.high, ii c.step] 27), (4, .row 1 0 (([] : List Value).map .v) 28)]) (rq [(3, 11), (11, 3), (4, 12), (12, 4)]) 5 ?inj ⟨⟨rfl, (show 2 < 5 by decide)⟩, ⟨rfl, (show 3 < 5 by decide)⟩, ⟨rfl, trivial⟩, ⟨rfl, (show 4 < 5 by decide)⟩, ⟨rfl, trivial⟩, ⟨rfl, trivial⟩, trivial⟩ ⟨⟨rfl, by omega, trivial⟩, ⟨rfl, by omega, trivial⟩, ⟨rfl, by omega, by simp [SObj.sc, SV.scs, SV.sc]⟩, ⟨rfl, by omega, by simp [SObj.sc, SV.scs, SV.sc]⟩, ⟨rfl, by omega, trivial⟩, trivial⟩ (by intro p hp; cases hp) ?_
  case inj =>
    intro i hi j hj hne he
    have inv : ∀ i, i < 5 → rq [(3, 11), (11, 3), (4, 12), (12, 4)] (rq [(3, 11), (11, 3), (4, 12), (12, 4)] i) = i := by decide
    exact hne (by rw [← inv i hi, he, inv j hj])
  refine Run.upToW (ι := World × List (Nat × Nat) × List Value) (fun x => (⟨Try.prog, tab, [(2000, fun _ _ => none)], 3, Try.f3, [], x.1, x.2.1, none⟩ : Cx)) (T := fun i _ => [(1, .ptr 2 0), (7, .ptr 3 0), (8, ii ((n : Nat) : Int)), (9, .opq 4), (71, ii ((nf : Nat) : Int)), (72, ii ((i : Nat) : Int))]) (M := fun i x => [(0, .rwin 1 lv.length (lv.map u8v)), (1, .rwin 2 mk.length (mk.flatMap prV)), (2, .cells [u8s wd, u8s hg, u8s st, .opq 0, u8s tk, .opq 1, u8s ms] 25), (3, .cells [ii c.wide, ii c.high, ii c.step] 27), (4, .row 1 i (x.2.2.map .v) 28)]) (fun i x => FrJ w lv n i x) nf (w, [], []) ⟨rfl, fun j h => (by cases h), Ext.refl w, fun p hp => (by cases hp)⟩ ?_ ?_
  · intro i x hi hJ ih
    refine Run.of_wpK (hc x.1 x.2.1 none (fun _ h => by cases h)) 1000 _ ?_
    conv => whnf
    rw [decide_eq_true (show ((i : Nat) : Int) < ((nf : Nat) : Int) by omega)]
    conv => whnf
    rw [opF_make (m := n) rfl rfl rfl rfl rfl rfl (by omega) (by omega)]
    conv => whnf
    refine Run.trim (T' := [(1, .ptr 2 0), (7, .ptr 3 0), (8, ii ((n : Nat) : Int)), (9, .opq 4), (71, ii ((nf : Nat) : Int)), (72, ii ((i : Nat) : Int)), (10, ii ((i : Nat) : Int)), (11, .opq 5), (78, ii ((n : Nat) : Int)), (79, ii ((0 : Nat) : Int))]) (M' := [(0, .rwin 1 lv.length (lv.map u8v)), (1, .rwin 2 mk.length (mk.flatMap prV)), (2, .cells [u8s wd, u8s hg, u8s st, .opq 0, u8s tk, .opq 1, u8s ms] 25), (3, .cells [ii c.wide, ii c.high, ii c.step] 27), (4, .row 1 i (x.2.2.map .v) 28), (5, .row 1 n ((frY lv n i 0).map fun x => ii x) 3)]) 6 ⟨⟨rfl, (show 2 < 6 by decide)⟩, ⟨rfl, (show 3 < 6 by decide)⟩, ⟨rfl, trivial⟩, ⟨rfl, (show 4 < 6 by decide)⟩, ⟨rfl, trivial⟩, ⟨rfl, trivial⟩, ⟨rfl, trivial⟩, ⟨rfl, (show 5 < 6 by decide)⟩, ⟨rfl, trivial⟩, ⟨rfl, trivial⟩, trivial⟩ ⟨⟨rfl, by omega, trivial⟩, ⟨rfl, by omega, trivial⟩, ⟨rfl, by omega, by simp [SObj.sc, SV.scs, SV.sc]⟩, ⟨rfl, by omega, by simp [SObj.sc, SV.scs, SV.sc]⟩, ⟨rfl, by omega, scs_v _ _⟩, ⟨by show some (SObj.row 1 n (List.replicate n (ii 0)) 3) = some (SObj.row 1 n ((List.replicate n 0).map fun x => ii x) 3); rw [List.map_replicate], by omega, scs_i _ _⟩, trivial⟩ (fun p hp => by have := (hJ.own p hp).1; omega) ?_
    refine Run.upToJ (T := fun j => [(1, .ptr 2 0), (7, .ptr 3 0), (8, ii ((n : Nat) : Int)), (9, .opq 4), (71, ii ((nf : Nat) : Int)), (72, ii ((i : Nat) : Int)), (10, ii ((i : Nat) : Int)), (11, .opq 5), (78, ii ((n : Nat) : Int)), (79, ii ((j : Nat) : Int))]) (M := fun j => [(0, .rwin 1 lv.length (lv.map u8v)), (1, .rwin 2 mk.length (mk.flatMap prV)), (2, .cells [u8s wd, u8s hg, u8s st, .opq 0, u8s tk, .opq 1, u8s ms] 25), (3, .cells [ii c.wide, ii c.high, ii c.step] 27), (4, .row 1 i (x.2.2.map .v) 28), (5, .row 1 n ((frY lv n i j).map fun x => ii x) 3)]) (fun _ => True) n trivial ?_ ?_
    · intro j hj _ ih2
      refine Run.of_wpK (hc x.1 x.2.1 none (fun _ h => by cases h)) 1000 _ ?_
      conv => whnf
      rw [decide_eq_true (show ((j : Nat) : Int) < ((n : Nat) : Int) by omega)]
      conv => whnf
      have hfl := frY_len lv n i j
      have hfs : frY lv n i (j + 1) = if 0 < lv.length then (frY lv n i j).set j (frV lv n i j) else frY lv n i j := rfl
      by_cases hl0 : 0 < lv.length
      · rw [if_pos hl0] at hfs
        rw [decide_eq_true (show (0 : Int) < (lv.length : Int) by omega)]
        conv => whnf
        have him : i * n ≤ 30 * 16 := Nat.mul_le_mul (by omega) (by omega)
        have hx1 : IntKind.i64.wrap (((i : Nat) : Int) * ((n : Nat) : Int)) = ((i * n : Nat) : Int) := by
          rw [show ((i : Nat) : Int) * ((n : Nat) : Int) = ((i * n : Nat) : Int) by simp]; exact W_id (by omega) (by omega)
        have hx2 : IntKind.i64.wrap (((i * n : Nat) : Int) + ((j : Nat) : Int)) = ((i * n + j : Nat) : Int) := by
          rw [show ((i * n : Nat) : Int) + ((j : Nat) : Int) = ((i * n + j : Nat) : Int) by simp]; exact W_id (by omega) (by omega)
        have hx3 : ((i * n + j : Nat) : Int).tmod (lv.length : Int) = (((i * n + j) % lv.length : Nat) : Int) := rfl
        have hkl : (i * n + j) % lv.length < lv.length := Nat.mod_lt _ hl0
        have hfv : frV lv n i j = W (lv.getD ((i * n + j) % lv.length) 0) := by
          unfold frV
          rw [show W (((i : Nat) : Int) * ((n : Nat) : Int)) = ((i * n : Nat) : Int) from hx1, show W (((i * n : Nat) : Int) + ((j : Nat) : Int)) = ((i * n + j : Nat) : Int) from hx2, hx3]; rfl
        refine Run.draw (hc x.1 x.2.1 none (fun _ h => by cases h)) 16 ?_
        rw [show upto 0 16 = upto 0 13 ++ (upto 13 1 ++ (upto 14 1 ++ upto 15 1)) from rfl]
        simp only [drawK_app]
        conv => whnf
        rw [hx1, hx2]
        refine ⟨by omega, ?_⟩
        conv => whnf
        rw [hx3]
        refine ⟨by omega, ?_⟩
        conv => whnf
        rw [opF_loadWf (f := fun x : Int => [u8v x]) (l := lv) (c := u8v (lv.getD ((i * n + j) % lv.length) 0)) ((i * n + j) % lv.length) 0 rfl rfl (by rw [flat_u8 lv]; rfl) rfl (fun _ => rfl) (by rw [idx_nat]; rfl) hkl (by decide) (congrArg (fun x => some (u8v x)) (show lv[(i * n + j) % lv.length] = lv.getD ((i * n + j) % lv.length) 0 by simp [List.getD_eq_getElem?_getD, hkl]))]
        conv => whnf
        refine ⟨by kernel_rfl, ?_⟩
        refine Run.of_wpK (hc x.1 x.2.1 none (fun _ h => by cases h)) 1000 _ ?_
        conv => whnf
        refine ⟨by omega, ?_⟩
        conv => whnf
        rw [opF_storeR1 (v := ii (W (lv.getD ((i * n + j) % lv.length) 0))) j rfl rfl rfl rfl rfl (by rw [idx_nat, Nat.mul_one]) (by rw [List.length_map]; omega) rfl rfl]
        conv => whnf
        exact Run.trim (T' := [(1, .ptr 2 0), (7, .ptr 3 0), (8, ii ((n : Nat) : Int)), (9, .opq 4), (71, ii ((nf : Nat) : Int)), (72, ii ((i : Nat) : Int)), (10, ii ((i : Nat) : Int)), (11, .opq 5), (78, ii ((n : Nat) : Int)), (79, ii (((j + 1) : Nat) : Int))]) (M' := [(0, .rwin 1 lv.length (lv.map u8v)), (1, .rwin 2 mk.length (mk.flatMap prV)), (2, .cells [u8s wd, u8s hg, u8s st, .opq 0, u8s tk, .opq 1, u8s ms] 25), (3, .cells [ii c.wide, ii c.high, ii c.step] 27), (4, .row 1 i (x.2.2.map .v) 28), (5, .row 1 n ((frY lv n i (j + 1)).map fun x => ii x) 3)]) 6 ⟨⟨rfl, (show 2 < 6 by decide)⟩, ⟨rfl, (show 3 < 6 by decide)⟩, ⟨rfl, trivial⟩, ⟨rfl, (show 4 < 6 by decide)⟩, ⟨rfl, trivial⟩, ⟨rfl, trivial⟩, ⟨rfl, trivial⟩, ⟨rfl, (show 5 < 6 by decide)⟩, ⟨rfl, trivial⟩, ⟨congrArg some (congrArg ii (wrap_succ (by omega))), trivial⟩, trivial⟩ ⟨⟨rfl, by omega, trivial⟩, ⟨rfl, by omega, trivial⟩, ⟨rfl, by omega, by simp [SObj.sc, SV.scs, SV.sc]⟩, ⟨rfl, by omega, by simp [SObj.sc, SV.scs, SV.sc]⟩, ⟨rfl, by omega, scs_v _ _⟩, ⟨by rw [hfs, hfv, List.map_set]; rfl, by omega, scs_i _ _⟩, trivial⟩ (fun p hp => by have := (hJ.own p hp).1; omega) (ih2 trivial)
      · rw [if_neg hl0] at hfs
        rw [decide_eq_false (show ¬ (0 : Int) < (lv.length : Int) by omega)]
        conv => whnf
        exact Run.trim (T' := [(1, .ptr 2 0), (7, .ptr 3 0), (8, ii ((n : Nat) : Int)), (9, .opq 4), (71, ii ((nf : Nat) : Int)), (72, ii ((i : Nat) : Int)), (10, ii ((i : Nat) : Int)), (11, .opq 5), (78, ii ((n : Nat) : Int)), (79, ii (((j + 1) : Nat) : Int))]) (M' := [(0, .rwin 1 lv.length (lv.map u8v)), (1, .rwin 2 mk.length (mk.flatMap prV)), (2, .cells [u8s wd, u8s hg, u8s st, .opq 0, u8s tk, .opq 1, u8s ms] 25), (3, .cells [ii c.wide, ii c.high, ii c.step] 27), (4, .row 1 i (x.2.2.map .v) 28), (5, .row 1 n ((frY lv n i (j + 1)).map fun x => ii x) 3)]) 6 ⟨⟨rfl, (show 2 < 6 by decide)⟩, ⟨rfl, (show 3 < 6 by decide)⟩, ⟨rfl, trivial⟩, ⟨rfl, (show 4 < 6 by decide)⟩, ⟨rfl, trivial⟩, ⟨rfl, trivial⟩, ⟨rfl, trivial⟩, ⟨rfl, (show 5 < 6 by decide)⟩, ⟨rfl, trivial⟩, ⟨congrArg some (congrArg ii (wrap_succ (by omega))), trivial⟩, trivial⟩ ⟨⟨rfl, by omega, trivial⟩, ⟨rfl, by omega, trivial⟩, ⟨rfl, by omega, by simp [SObj.sc, SV.scs, SV.sc]⟩, ⟨rfl, by omega, by simp [SObj.sc, SV.scs, SV.sc]⟩, ⟨rfl, by omega, scs_v _ _⟩, ⟨by rw [hfs]; rfl, by omega, scs_i _ _⟩, trivial⟩ (fun p hp => by have := (hJ.own p hp).1; omega) (ih2 trivial)

    · intro _
      refine Run.of_wpK (hc x.1 x.2.1 none (fun _ h => by cases h)) 1000 _ ?_
      conv => whnf
      rw [decide_eq_false (show ¬ ((n : Nat) : Int) < ((n : Nat) : Int) by omega)]
      conv => whnf
      refine ⟨by omega, ?_⟩
      conv => whnf
      have hren : some (SObj.row 1 (i + 1) (x.2.2.map .v ++ [.opq 5]) 28) = some ((SObj.row 1 (i + 1) (x.2.2.map .v ++ [.opq 5]) 28).ren (rq [(4, 7), (7, 4)])) := by
        show _ = some (SObj.row 1 (i + 1) (SV.rens (rq [(4, 7), (7, 4)]) (x.2.2.map .v ++ [.opq 5])) 28)
        rw [rens_app, rens_v]; rfl
      refine Run.freeze (rq [(4, 7), (7, 4)]) 6 5 (xs := ints (frY lv n i n)) (congrArg (fun z => some (SObj.row 1 n z 3)) (ints_iv _)) (by decide) [2, 3, 4] [(0, .rwin 1 lv.length (lv.map u8v)), (1, .rwin 2 mk.length (mk.flatMap prV)), (2, .cells [u8s wd, u8s hg, u8s st, .opq 0, u8s tk, .opq 1, u8s ms] 25), (3, .cells [ii c.wide, ii c.high, ii c.step] 27), (4, .row 1 (i + 1) (x.2.2.map .v ++ [.opq 5]) 28)] ?_ ?_ ?_ (fun _ => [(1, .ptr 2 0), (7, .ptr 3 0), (8, ii ((n : Nat) : Int)), (9, .opq 4), (71, ii ((nf : Nat) : Int)), (72, ii (((i + 1) : Nat) : Int))]) (fun v => [(0, .rwin 1 lv.length (lv.map u8v)), (1, .rwin 2 mk.length (mk.flatMap prV)), (2, .cells [u8s wd, u8s hg, u8s st, .opq 0, u8s tk, .opq 1, u8s ms] 25), (3, .cells [ii c.wide, ii c.high, ii c.step] 27), (4, .row 1 (i + 1) ((x.2.2 ++ [v]).map .v) 28)]) ?_ ?_ ?_
      · intro q hq
        have hq2 : q = 2 ∨ q = 3 ∨ q = 4 := by simpa using hq
        rcases hq2 with rfl | rfl | rfl
        · exact ⟨by decide, by decide, (2, .cells [u8s wd, u8s hg, u8s st, .opq 0, u8s tk, .opq 1, u8s ms] 25), by simp, rfl⟩
        · exact ⟨by decide, by decide, (3, .cells [ii c.wide, ii c.high, ii c.step] 27), by simp, rfl⟩
        · exact ⟨by decide, by decide, (4, .row 1 (i + 1) (x.2.2.map .v ++ [.opq 5]) 28), by simp, rfl⟩
      · exact AllP.mem ⟨⟨by omega, trivial, rfl, .inr fun _ h => h, fun _ h => by simp at h⟩, ⟨by omega, trivial, rfl, .inr fun _ h => h, fun _ h => by simp at h⟩, ⟨by omega, by simp [SObj.sc, SV.scs, SV.sc], rfl, .inl (by simp), fun h => by cases h⟩, ⟨by omega, by simp [SObj.sc, SV.scs, SV.sc], rfl, .inl (by simp), fun h => by cases h⟩, ⟨by omega, scs_append (scs_v _ _) ⟨(show 5 < 6 by decide), trivial⟩, hren, .inl (by simp), fun h => by cases h⟩, trivial⟩
      · intro a ha b hb hne
        have inj : ∀ i, i < 6 → ∀ j, j < 6 → i ≠ j → (rq [(4, 7), (7, 4)]) i ≠ (rq [(4, 7), (7, 4)]) j := by decide
        have hlt : ∀ y ∈ ([(0, .rwin 1 lv.length (lv.map u8v)), (1, .rwin 2 mk.length (mk.flatMap prV)), (2, .cells [u8s wd, u8s hg, u8s st, .opq 0, u8s tk, .opq 1, u8s ms] 25), (3, .cells [ii c.wide, ii c.high, ii c.step] 27), (4, .row 1 (i + 1) (x.2.2.map .v ++ [.opq 5]) 28)] : List (Nat × SObj)), y.1 < 6 := AllP.mem ⟨(show 0 < 6 by decide), (show 1 < 6 by decide), (show 2 < 6 by decide), (show 3 < 6 by decide), (show 4 < 6 by decide), trivial⟩
        exact inj a.1 (hlt a ha) b.1 (hlt b hb) hne
      · intro v
        exact AllP.mem ⟨⟨.ptr 2 0, rfl, (show 2 < 6 by decide), .inl rfl⟩, ⟨.ptr 3 0, rfl, (show 3 < 6 by decide), .inl rfl⟩, ⟨ii ((n : Nat) : Int), rfl, trivial, .inl rfl⟩, ⟨.opq 4, rfl, (show 4 < 6 by decide), .inl rfl⟩, ⟨ii ((nf : Nat) : Int), rfl, trivial, .inl rfl⟩, ⟨ii ((i + 1 : Nat) : Int), congrArg some (congrArg ii (wrap_succ (by omega))), trivial, .inl rfl⟩, trivial⟩
      · intro v
        exact AllP.mem ⟨⟨_, rfl, .inl rfl⟩, ⟨_, rfl, .inl rfl⟩, ⟨_, rfl, .inl rfl⟩, ⟨_, rfl, .inl rfl⟩, ⟨_, rfl, .inr (.inr ⟨_, _, _, _, _, rfl, rfl, by rw [List.map_append]; exact FzL.app _ (.inr ⟨rfl, rfl⟩)⟩)⟩, trivial⟩
      · intro v w' L' g1 g2 g3 g4 g5 g6 g7 g8
        have hJ' := hJ.next (by omega) g1 (fun b hb => (g2 b hb).2) g3 g4 g5 g6 g7 g8
        exact Run.trim (T' := [(1, .ptr 2 0), (7, .ptr 3 0), (8, ii ((n : Nat) : Int)), (9, .opq 4), (71, ii ((nf : Nat) : Int)), (72, ii (((i + 1) : Nat) : Int))]) (M' := [(0, .rwin 1 lv.length (lv.map u8v)), (1, .rwin 2 mk.length (mk.flatMap prV)), (2, .cells [u8s wd, u8s hg, u8s st, .opq 0, u8s tk, .opq 1, u8s ms] 25), (3, .cells [ii c.wide, ii c.high, ii c.step] 27), (4, .row 1 (i + 1) ((x.2.2 ++ [v]).map .v) 28)]) 5 ⟨⟨rfl, (show 2 < 5 by decide)⟩, ⟨rfl, (show 3 < 5 by decide)⟩, ⟨rfl, trivial⟩, ⟨rfl, (show 4 < 5 by decide)⟩, ⟨rfl, trivial⟩, ⟨rfl, trivial⟩, trivial⟩ ⟨⟨rfl, by omega, trivial⟩, ⟨rfl, by omega, trivial⟩, ⟨rfl, by omega, by simp [SObj.sc, SV.scs, SV.sc]⟩, ⟨rfl, by omega, by simp [SObj.sc, SV.scs, SV.sc]⟩, ⟨rfl, by omega, scs_v _ _⟩, trivial⟩ (fun p hp => by have := (hJ'.own p hp).1; omega) (ih (w', L', x.2.2 ++ [v]) hJ')

  · intro x hJ
    refine Run.of_wpK (hc x.1 x.2.1 none (fun _ h => by cases h)) 1000 _ ?_
    conv => whnf
    rw [decide_eq_false (show ¬ ((nf : Nat) : Int) < ((nf : Nat) : Int) by omega)]
    conv => whnf
    refine Run.nils (T' := [(1, .ptr 2 0), (7, .ptr 3 0), (8, ii ((n : Nat) : Int)), (9, .opq 4), (13, .opq 6), (14, .mp 5), (111, .opq 1), (112, ii (mk.length : Int)), (113, ii 0)]) (M' := [(0, .rwin 1 lv.length (lv.map u8v)), (1, .rwin 2 mk.length (mk.flatMap prV)), (2, .cells [u8s wd, u8s hg, u8s st, .opq 0, u8s tk, .opq 1, u8s ms] 25), (3, .cells [ii c.wide, ii c.high, ii c.step] 27), (4, .row 1 nf (x.2.2.map .v) 28), (5, .kmap true true []), (6, .row 2 0 [] 36)]) 1 (fun _ => .row 2 0 [] 36) (fun _ _ => .inl ⟨_, _, rfl⟩) ⟨⟨_, rfl, .inl rfl⟩, ⟨_, rfl, .inl rfl⟩, ⟨_, rfl, .inl rfl⟩, ⟨_, rfl, .inl rfl⟩, ⟨_, rfl, .inr (.inl ⟨rfl, 0, by decide, rfl⟩)⟩, ⟨_, rfl, .inl rfl⟩, ⟨_, rfl, .inl rfl⟩, ⟨_, rfl, .inl rfl⟩, ⟨_, rfl, .inl rfl⟩, trivial⟩ ⟨.inr ⟨_, rfl, .inl rfl⟩, .inr ⟨_, rfl, .inl rfl⟩, .inr ⟨_, rfl, .inl rfl⟩, .inr ⟨_, rfl, .inl rfl⟩, .inr ⟨_, rfl, .inl rfl⟩, .inr ⟨_, rfl, .inl rfl⟩, .inl ⟨0, by decide, rfl⟩, trivial⟩ ?_
    refine Run.trim (T' := [(1, .ptr 2 0), (7, .ptr 3 0), (8, ii ((n : Nat) : Int)), (9, .opq 4), (13, .opq 6), (14, .mp 5), (111, .opq 1), (112, ii (mk.length : Int)), (113, ii ((0 : Nat) : Int))]) (M' := [(0, .rwin 1 lv.length (lv.map u8v)), (1, .rwin 2 mk.length (mk.flatMap prV)), (2, .cells [u8s wd, u8s hg, u8s st, .opq 0, u8s tk, .opq 1, u8s ms] 25), (3, .cells [ii c.wide, ii c.high, ii c.step] 27), (4, .row 1 nf (x.2.2.map .v) 28), (5, .kmap true true (mkS n mk 0).2), (6, .row 2 (mkS n mk 0).1.length ((mkS n mk 0).1.flatMap Pm.cells) 36)]) 7 ⟨⟨rfl, (show 2 < 7 by decide)⟩, ⟨rfl, (show 3 < 7 by decide)⟩, ⟨rfl, trivial⟩, ⟨rfl, (show 4 < 7 by decide)⟩, ⟨rfl, (show 6 < 7 by decide)⟩, ⟨rfl, (show 5 < 7 by decide)⟩, ⟨rfl, (show 1 < 7 by decide)⟩, ⟨rfl, trivial⟩, ⟨rfl, trivial⟩, trivial⟩ ⟨⟨rfl, by omega, trivial⟩, ⟨rfl, by omega, trivial⟩, ⟨rfl, by omega, by simp [SObj.sc, SV.scs, SV.sc]⟩, ⟨rfl, by omega, by simp [SObj.sc, SV.scs, SV.sc]⟩, ⟨rfl, by omega, scs_v _ _⟩, ⟨rfl, by omega, trivial⟩, ⟨rfl, by omega, scs_pms _ _⟩, trivial⟩ (fun p hp => by have := (hJ.own p hp).1; omega) ?_
    refine Run.upToJ (T := fun j => [(1, .ptr 2 0), (7, .ptr 3 0), (8, ii ((n : Nat) : Int)), (9, .opq 4), (13, .opq 6), (14, .mp 5), (111, .opq 1), (112, ii (mk.length : Int)), (113, ii ((j : Nat) : Int))]) (M := fun j => [(0, .rwin 1 lv.length (lv.map u8v)), (1, .rwin 2 mk.length (mk.flatMap prV)), (2, .cells [u8s wd, u8s hg, u8s st, .opq 0, u8s tk, .opq 1, u8s ms] 25), (3, .cells [ii c.wide, ii c.high, ii c.step] 27), (4, .row 1 nf (x.2.2.map .v) 28), (5, .kmap true true (mkS n mk j).2), (6, .row 2 (mkS n mk j).1.length ((mkS n mk j).1.flatMap Pm.cells) 36)]) (fun _ => True) mk.length trivial ?_ ?_
    · intro j hj _ ih2
      refine Run.of_wpK (hc x.1 x.2.1 none (fun _ h => by cases h)) 1000 _ ?_
      conv => whnf
      rw [decide_eq_true (show ((j : Nat) : Int) < (mk.length : Int) by omega)]
      conv => whnf
      refine ⟨by omega, ?_⟩
      conv => whnf
      rw [opF_loadW (f := prV) (l := mk) j rfl rfl rfl rfl rfl (fun _ => rfl) (by rw [idx_nat]) hj]
      conv => whnf
      refine Run.draw (hc x.1 x.2.1 none (fun _ h => by cases h)) 12 ?_
      rw [show upto 0 12 = upto 0 1 ++ (upto 1 5 ++ (upto 6 1 ++ (upto 7 3 ++ upto 10 2))) from rfl]
      simp only [drawK_app]
      conv => whnf
      refine ⟨by decide, ?_⟩
      conv => whnf
      refine ⟨by show W (2 * (n : Int)) ≠ 0; omega, ?_⟩
      conv => whnf
      refine ⟨by decide, ?_⟩
      conv => whnf
      refine ⟨by decide, ?_⟩
      conv => whnf
      refine ⟨by kernel_rfl, ?_⟩
      refine Run.of_wpK (hc x.1 x.2.1 none (fun _ h => by cases h)) 1000 _ ?_
      conv => whnf
      have hgj : mk.getD j (0, 0) = mk[j] := by simp [List.getD_eq_getElem?_getD, hj]
      have hsj : mkS n mk (j + 1) = mkStep n (mkS n mk j) mk[j] := by rw [← hgj]; rfl
      have hsl := mkS_len n mk j
      have hsv := mkS_val n mk j
      obtain ⟨s, hs⟩ : ∃ s, mkS n mk j = s := ⟨_, rfl⟩
      rw [hs] at hsj hsl hsv
      rw [hs]
      obtain ⟨y, hy⟩ : ∃ y, mkP n mk[j] = y := ⟨_, rfl⟩
      have hy1 : (IntKind.i64.wrap mk[j].1).tmod (IntKind.i64.wrap (2 * (n : Int))) = y.inp := by rw [← hy]; rfl
      have hy2 : (IntKind.i64.wrap mk[j].2).tmod 16 = y.off := by rw [← hy]; rfl
      unfold mkStep at hsj
      rw [hy] at hsj
      rw [hy1, hy2]
      cases e1 : decide ((s.1.length : Int) < 8)
      case false =>
        rw [if_neg (fun h => by have := of_decide_eq_false e1; omega)] at hsj
        conv => whnf
        exact Run.trim (T' := [(1, .ptr 2 0), (7, .ptr 3 0), (8, ii ((n : Nat) : Int)), (9, .opq 4), (13, .opq 6), (14, .mp 5), (111, .opq 1), (112, ii (mk.length : Int)), (113, ii (((j + 1) : Nat) : Int))]) (M' := [(0, .rwin 1 lv.length (lv.map u8v)), (1, .rwin 2 mk.length (mk.flatMap prV)), (2, .cells [u8s wd, u8s hg, u8s st, .opq 0, u8s tk, .opq 1, u8s ms] 25), (3, .cells [ii c.wide, ii c.high, ii c.step] 27), (4, .row 1 nf (x.2.2.map .v) 28), (5, .kmap true true (mkS n mk (j + 1)).2), (6, .row 2 (mkS n mk (j + 1)).1.length ((mkS n mk (j + 1)).1.flatMap Pm.cells) 36)]) 7 ⟨⟨rfl, (show 2 < 7 by decide)⟩, ⟨rfl, (show 3 < 7 by decide)⟩, ⟨rfl, trivial⟩, ⟨rfl, (show 4 < 7 by decide)⟩, ⟨rfl, (show 6 < 7 by decide)⟩, ⟨rfl, (show 5 < 7 by decide)⟩, ⟨rfl, (show 1 < 7 by decide)⟩, ⟨rfl, trivial⟩, ⟨congrArg some (congrArg ii (wrap_succ (by omega))), trivial⟩, trivial⟩ ⟨⟨rfl, by omega, trivial⟩, ⟨rfl, by omega, trivial⟩, ⟨rfl, by omega, by simp [SObj.sc, SV.scs, SV.sc]⟩, ⟨rfl, by omega, by simp [SObj.sc, SV.scs, SV.sc]⟩, ⟨rfl, by omega, scs_v _ _⟩, ⟨by rw [hsj]; rfl, by omega, trivial⟩, ⟨by rw [hsj]; rfl, by omega, scs_pms _ _⟩, trivial⟩ (fun p hp => by have := (hJ.own p hp).1; omega) (ih2 trivial)
      case true =>
        have e1' := of_decide_eq_true e1
        conv => whnf
        cases hq : kget s.2 (.p y.inp y.off) with
        | some u =>
          obtain rfl := hsv _ _ hq
          rw [if_neg (fun h => by rw [h.2] at hq; cases hq)] at hsj
          conv => whnf
          exact Run.trim (T' := [(1, .ptr 2 0), (7, .ptr 3 0), (8, ii ((n : Nat) : Int)), (9, .opq 4), (13, .opq 6), (14, .mp 5), (111, .opq 1), (112, ii (mk.length : Int)), (113, ii (((j + 1) : Nat) : Int))]) (M' := [(0, .rwin 1 lv.length (lv.map u8v)), (1, .rwin 2 mk.length (mk.flatMap prV)), (2, .cells [u8s wd, u8s hg, u8s st, .opq 0, u8s tk, .opq 1, u8s ms] 25), (3, .cells [ii c.wide, ii c.high, ii c.step] 27), (4, .row 1 nf (x.2.2.map .v) 28), (5, .kmap true true (mkS n mk (j + 1)).2), (6, .row 2 (mkS n mk (j + 1)).1.length ((mkS n mk (j + 1)).1.flatMap Pm.cells) 36)]) 7 ⟨⟨rfl, (show 2 < 7 by decide)⟩, ⟨rfl, (show 3 < 7 by decide)⟩, ⟨rfl, trivial⟩, ⟨rfl, (show 4 < 7 by decide)⟩, ⟨rfl, (show 6 < 7 by decide)⟩, ⟨rfl, (show 5 < 7 by decide)⟩, ⟨rfl, (show 1 < 7 by decide)⟩, ⟨rfl, trivial⟩, ⟨congrArg some (congrArg ii (wrap_succ (by omega))), trivial⟩, trivial⟩ ⟨⟨rfl, by omega, trivial⟩, ⟨rfl, by omega, trivial⟩, ⟨rfl, by omega, by simp [SObj.sc, SV.scs, SV.sc]⟩, ⟨rfl, by omega, by simp [SObj.sc, SV.scs, SV.sc]⟩, ⟨rfl, by omega, scs_v _ _⟩, ⟨by rw [hsj]; rfl, by omega, trivial⟩, ⟨by rw [hsj]; rfl, by omega, scs_pms _ _⟩, trivial⟩ (fun p hp => by have := (hJ.own p hp).1; omega) (ih2 trivial)
        | none =>
          rw [if_pos ⟨by omega, hq⟩] at hsj
          conv => whnf
          refine ⟨by omega, ?_⟩
          conv => whnf
          refine Run.trimQ (T' := [(1, .ptr 2 0), (7, .ptr 3 0), (8, ii ((n : Nat) : Int)), (9, .opq 4), (13, .opq 6), (14, .mp 5), (111, .opq 1), (112, ii (mk.length : Int)), (113, ii (((j + 1) : Nat) : Int))]) (M' := [(0, .rwin 1 lv.length (lv.map u8v)), (1, .rwin 2 mk.length (mk.flatMap prV)), (2, .cells [u8s wd, u8s hg, u8s st, .opq 0, u8s tk, .opq 1, u8s ms] 25), (3, .cells [ii c.wide, ii c.high, ii c.step] 27), (4, .row 1 nf (x.2.2.map .v) 28), (5, .kmap true true (mkS n mk (j + 1)).2), (6, .row 2 (mkS n mk (j + 1)).1.length ((mkS n mk (j + 1)).1.flatMap Pm.cells) 36)]) (rq [(6, 22), (22, 6)]) 7 (fun i hi j hj hne => by have inj : ∀ i, i < 7 → ∀ j, j < 7 → i ≠ j → (rq [(6, 22), (22, 6)]) i ≠ (rq [(6, 22), (22, 6)]) j := (by decide); exact inj i hi j hj hne) ⟨⟨rfl, (show 2 < 7 by decide)⟩, ⟨rfl, (show 3 < 7 by decide)⟩, ⟨rfl, trivial⟩, ⟨rfl, (show 4 < 7 by decide)⟩, ⟨rfl, (show 6 < 7 by decide)⟩, ⟨rfl, (show 5 < 7 by decide)⟩, ⟨rfl, (show 1 < 7 by decide)⟩, ⟨rfl, trivial⟩, ⟨congrArg some (congrArg ii (wrap_succ (by omega))), trivial⟩, trivial⟩ ⟨⟨rfl, by omega, trivial⟩, ⟨rfl, by omega, trivial⟩, ⟨rfl, by omega, by simp [SObj.sc, SV.scs, SV.sc]⟩, ⟨rfl, by omega, by simp [SObj.sc, SV.scs, SV.sc]⟩, ⟨congrArg some (fix_v _ _ _ _).symm, by omega, scs_v _ _⟩, ⟨by rw [hsj]; rfl, by omega, trivial⟩, ⟨by rw [fix_pm, hsj, List.length_append, List.flatMap_append]; rfl, by omega, scs_pms _ _⟩, trivial⟩ (fun p hp => ?_) (ih2 trivial)
          have := hJ.own p hp
          have fx : ∀ q, q < 5 → (rq [(6, 22), (22, 6)]) q = q ∧ q < 7 := by decide
          exact fx p.1 (by omega)

    · intro _
      refine Run.of_wpK (hc x.1 x.2.1 none (fun _ h => by cases h)) 1000 _ ?_
      conv => whnf
      rw [decide_eq_false (show ¬ ((mk.length : Nat) : Int) < (mk.length : Int) by omega)]
      conv => whnf
      have hfsl : x.2.2.length = nf := hJ.len
      cases e : ((((mkS n mk mk.length).1.length : Nat) : Int) == 0)
      case true =>
        refine Run.draw (hc x.1 x.2.1 none (fun _ h => by cases h)) 13 ?_
        rw [show upto 0 13 = upto 0 4 ++ upto 4 9 from rfl]
        simp only [drawK_app]
        conv => whnf
        rw [e]
        conv => whnf
        refine ⟨by kernel_rfl, ?_⟩
        refine Run.of_wpK (hc x.1 x.2.1 none (fun _ h => by cases h)) 1000 _ ?_
        conv => whnf
        rw [← hRR]
        exact ⟨fun ρ w' hW _ => ⟨rfl, hW.backExt hJ.ext fun p hp => (hJ.own p hp).2⟩⟩
      case false =>
        have hm0 : 0 < (mkS n mk mk.length).1.length := by have := of_decide_eq_false (by simpa using e : decide ((((mkS n mk mk.length).1.length : Nat) : Int) = 0) = false); omega
        refine Run.draw (hc x.1 x.2.1 none (fun _ h => by cases h)) 13 ?_
        rw [show upto 0 13 = upto 0 4 ++ upto 4 9 from rfl]
        simp only [drawK_app]
        conv => whnf
        rw [e]
        conv => whnf
        refine ⟨by omega, ?_⟩
        conv => whnf
        refine ⟨by kernel_rfl, ?_⟩
        refine Run.of_wpK (hc x.1 x.2.1 none (fun _ h => by cases h)) 1000 _ ?_
        conv => whnf
        have hpat := mk_pat hcam hcw hch hmb hms.1 hms.2 (j := mk.length) (by rw [hn]; exact hm0)
        rw [hn] at hpat
        obtain ⟨marks, hmarks⟩ : ∃ l, (mkS n mk mk.length).1 = l := ⟨_, rfl⟩
        rw [hmarks] at hpat
        rw [hmarks]
        let fs : List (List Int) := (List.range nf).map fun t => frY lv n t n
        have hfl : fs.length = nf := by simp [fs]
        have hfg : ∀ i (h : i < fs.length), fs[i] = frY lv n i n := fun i h => by simp [fs]
        have hfok : ∀ f ∈ fs, FrameOK c f := fun f hf => by
          obtain ⟨i, hi, rfl⟩ := List.getElem_of_mem hf
          rw [hfg i hi]
          exact ⟨by rw [frY_len, hn], frY_ok hb _⟩
        obtain ⟨pos, mid, q1, q2, k1, k2, k3, k4⟩ := hS c fs marks ((W ms).tmod (marks.length : Int)) hcam hcw hch hfok (by omega) (by omega) hpat
        refine Run.callE (g := 5) (vs := [.agg [ii c.wide, ii c.high, ii c.step], .opq 4, .opq 6, ii ((W ms).tmod (marks.length : Int))]) (caps := []) (.v (.bool true)) (fun ρ w1 hW => seen_run c hcam _ fs hfok (by omega) (by omega) _ marks ((W ms).tmod (marks.length : Int)) w1 ⟨x.2.2, by
            have h8 := hW.rowsAtR (i := 4) rfl (by decide)
            rw [concs_v] at h8
            rw [hfl]; exact h8, by rw [hfl]; exact hfsl, fun i h h' => by
            rw [hfg i h, frY_len]
            obtain ⟨g1, g2⟩ := hJ.rows i h'
            exact g1.modF hW.toModF (.inr fun b hb ⟨p, hp, hpe⟩ => g2 b hb p hp hpe)⟩ (by
            have h8 := hW.rowsAtR (i := 6) rfl (by decide)
            rw [pms_v, concs_v] at h8
            exact h8) _ rfl k1 pos mid q1 q2 k2 hpat k3 k4) (ent _ _ Try.func5 (by kernel_rfl) rfl) rfl rfl rfl rfl rfl rfl rfl trivial ?_
        refine Run.of_wpK (hc x.1 x.2.1 none (fun _ h => by cases h)) 1000 _ ?_
        conv => whnf
        rw [← hRR]
        exact ⟨fun ρ w' hW _ => ⟨rfl, hW.backExt hJ.ext fun p hp => (hJ.own p hp).2⟩⟩
end Go.Proofs.Ythaigkamfnjfbaa
