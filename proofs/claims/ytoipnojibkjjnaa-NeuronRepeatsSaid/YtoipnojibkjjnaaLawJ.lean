/-
  Walk of the statement 'NeuronRepeats': it returns true.
  For every input; the world only gets new blocks.
-/
import Derived.Test.YtoipnojibkjjnaaLawC
import Derived.Test.YtoipnojibkjjnaaLawD
import Derived.Test.YtoipnojibkjjnaaNeuL
namespace Go.Proofs.Ytoipnojibkjjnaa
open Go.Sx
set_option maxRecDepth 100000

/-- The cells of the first n states. -/
def sts (p : Prm) (s : Ste) (x : Int) : Nat → List SV
  | 0 => []
  | n + 1 => sts p s x n ++ [ii (sq p s x n).v, ii (sq p s x n).rest]
theorem sts_sc (S : Nat → Prop) (p : Prm) (s : Ste) (x : Int) : ∀ n, SV.scs S (sts p s x n)
  | 0 => trivial
  | n + 1 => scs_append (sts_sc S p s x n) ⟨trivial, trivial, trivial⟩
theorem sts_length (p : Prm) (s : Ste) (x : Int) : ∀ n, (sts p s x n).length = n * 2
  | 0 => rfl
  | n + 1 => by rw [sts, List.length_append, sts_length p s x n]; simp; omega
theorem sts_rens (r : Nat → Nat) (p : Prm) (s : Ste) (x : Int) : ∀ n, SV.rens r (sts p s x n) = sts p s x n
  | 0 => rfl
  | n + 1 => by
    have h : ∀ (l l' : List SV), SV.rens r (l ++ l') = SV.rens r l ++ SV.rens r l' := by
      intro l l'
      induction l with
      | nil => rfl
      | cons a l ih => simp only [List.cons_append, SV.rens, ih]
    rw [sts, h, sts_rens r p s x n]; rfl
theorem sts_get (p : Prm) (s : Ste) (x : Int) : ∀ n i, i < n → (sts p s x n)[i * 2]? = some (ii (sq p s x i).v) ∧ (sts p s x n)[i * 2 + 1]? = some (ii (sq p s x i).rest)
  | 0, _, h => by omega
  | n + 1, i, h => by
    have hl := sts_length p s x n
    rcases Nat.lt_or_ge i n with hlt | hge
    · obtain ⟨h1, h2⟩ := sts_get p s x n i hlt
      rw [sts, List.getElem?_append_left (by omega), List.getElem?_append_left (by omega)]
      exact ⟨h1, h2⟩
    · have e : i = n := by omega
      rw [sts, e, List.getElem?_append_right (by omega), List.getElem?_append_right (by omega), hl, Nat.sub_self, show n * 2 + 1 - n * 2 = 1 by omega]
      exact ⟨rfl, rfl⟩
theorem takeD_some {α : Type} (l : List α) (i n : Nat) (h : i + n ≤ l.length) : ∃ r, takeD l i n = some r := by
  induction l generalizing i n with
  | nil =>
    obtain rfl : n = 0 := by simp at h; omega
    obtain rfl : i = 0 := by simpa using h
    exact ⟨_, rfl⟩
  | cons a l ih =>
    cases i with
    | zero =>
      cases n with
      | zero => exact ⟨_, rfl⟩
      | succ n =>
        obtain ⟨r, hr⟩ := ih 0 n (by simp at h ⊢; omega)
        exact ⟨a :: r, by simp [takeD, hr]⟩
    | succ i =>
      obtain ⟨r, hr⟩ := ih i n (by simp at h; omega)
      exact ⟨r, by simpa [takeD] using hr⟩
theorem sts_at {p : Prm} {s : Ste} {x : Int} {n i : Nat} (h : i < n) : takeD (sts p s x n) (idx (i : Int) 2) 2 = some [ii (sq p s x i).v, ii (sq p s x i).rest] := by
  show takeD (sts p s x n) (((i : Int)).toNat * 2) 2 = _
  rw [Int.toNat_natCast]
  have hl := sts_length p s x n
  obtain ⟨r, hr⟩ := takeD_some (sts p s x n) (i * 2) 2 (by omega)
  obtain ⟨h1, h2⟩ := takeD_eq _ _ _ _ hr
  obtain ⟨g1, g2⟩ := sts_get p s x n i h
  rw [hr, h2]
  congr 1
  apply List.ext_getElem?
  intro j
  rw [List.getElem?_take, List.getElem?_drop]
  match j with
  | 0 => simpa using g1
  | 1 => simpa using g2
  | j + 2 => simp; omega
theorem opF_load_agg {tab : Tab} {pf : PF} {T : Tm} {M : Mem} {n : Nat} {t : TypeId} {x : Operand} {ti : TI} {i off e m : Nat} {te : TypeId} {cs l : List SV} (ht : Sx.look tab t = some ti) (hx : ev T x = some (.ptr i off)) (hM : M i = some (.row e m cs te)) (hag : ti.sh.isAgg = true) (hg : takeD cs off ti.size = some l) :
    opF tab pf T M n (.load t x) = some (.val none (.agg l)) := by
  simp only [opF, opLoad, ht, hx, hM, hag, SObj.list, hg]

/-- How many spikes have been counted ahead of tick number t. -/
def nnc (p : Prm) (s : Ste) (x : Int) (mu lam t : Nat) : Nat := cnt p s x mu (min (t - mu) lam)
theorem nnc_le (p : Prm) (s : Ste) (x : Int) (mu lam t : Nat) : nnc p s x mu lam t ≤ lam := Nat.le_trans (cnt_le p s x mu _) (Nat.min_le_right _ _)
theorem nnc_same {p : Prm} {s : Ste} {x : Int} {mu lam t : Nat} (h : stepB p (sq p s x t) x = false ∨ t < mu ∨ mu + lam ≤ t) : nnc p s x mu lam (t + 1) = nnc p s x mu lam t := by
  unfold nnc
  rcases h with h | h | h
  · rcases Nat.lt_or_ge t mu with h1 | h1
    · rw [show t + 1 - mu = 0 by omega, show t - mu = 0 by omega]
    · rcases Nat.lt_or_ge t (mu + lam) with h2 | h2
      · rw [show min (t + 1 - mu) lam = min (t - mu) lam + 1 by omega, cnt, show mu + min (t - mu) lam = t by omega, h]; rfl
      · rw [show min (t + 1 - mu) lam = min (t - mu) lam by omega]
  · rw [show t + 1 - mu = 0 by omega, show t - mu = 0 by omega]
  · rw [show min (t + 1 - mu) lam = min (t - mu) lam by omega]
theorem nnc_more {p : Prm} {s : Ste} {x : Int} {mu lam t : Nat} (h : stepB p (sq p s x t) x = true) (h1 : mu ≤ t) (h2 : t < mu + lam) : nnc p s x mu lam (t + 1) = nnc p s x mu lam t + 1 := by
  unfold nnc
  rw [show min (t + 1 - mu) lam = min (t - mu) lam + 1 by omega, cnt, show mu + min (t - mu) lam = t by omega, h]; rfl
theorem vld_sq {p : Prm} {s : Ste} (h : vld p s = 0) (x : Int) : ∀ i, vld p (sq p s x i) = 0
  | 0 => h
  | i + 1 => vld_step (vld_sq h x i) x

theorem neuronRepeats_walk (w : World) (p : Prm) (_ : p.fits) (s : Ste) (_ : s.fits) (x : Int) (_ : I64 x) :
    Calls Try.prog 13 #[p.sv.conc env0, s.sv.conc env0, .int .i64 x] w fun e w' => e = .returned (.bool true) ∧ Ext w w' := by
  obtain ⟨vd, hvd⟩ : ∃ vd : Prm → Ste → Int, vld = vd := ⟨vld, rfl⟩
  have hpf : PF.oks Try.prog ((21, FPS fun p s => .int .i64 (vd p s)) :: pfW) := by rw [← hvd]; exact ⟨valid_pure, pfW_ok⟩
  have hc : ∀ (q : Cx), q = ⟨Try.prog, tab, (21, FPS fun p s => .int .i64 (vd p s)) :: pfW, 13, Try.f13, [], w, [], none⟩ → q.ok := by
    rintro _ rfl
    exact ⟨tab_ok, hpf, Try.func13, mixed, fun _ h => by cases h⟩
  refine Run.start0 (tab := tab) (pf := (21, FPS fun p s => .int .i64 (vd p s)) :: pfW) (cuts := []) mixed tab_ok hpf Try.func13 rfl [p.sv, s.sv, ii x] 1000 (by simp [SV.scs, SV.sc, Prm.sv, Prm.cells, Ste.sv, Ste.cells]) rfl ?_
  conv => whnf
  by_cases hv : vld p s = 0
  · have hv2 : vd p s = 0 := by rw [← hvd]; exact hv
    rcases Cycle_all p s x hv with hcy | ⟨mu, lam, hic, hsum, hcy⟩
    · refine Run.callE (g := 35) (vs := [p.sv, s.sv, ii x]) (caps := []) (.tup [ii 0, ii 0, ii 0, ii 8]) (fun ρ w _ => (hcy w).mono fun _ w' ⟨he, hx⟩ => ⟨by rw [he]; rfl, hx⟩) (ent _ _ Try.func35 (by kernel_rfl) rfl) rfl rfl rfl rfl rfl rfl rfl ⟨trivial, trivial, trivial, trivial, trivial⟩ ?_
      refine Run.of_wpK (hc _ rfl) 1000 _ ?_
      conv => whnf
      rw [show (8 == vd ⟨p.lk, p.leak, p.bias, p.thr, p.rk, p.reset, p.floor, p.rest⟩ ⟨s.v, s.rest⟩) = false by show (8 == vd p s) = false; rw [hv2]; rfl]
      conv => whnf
      exact ⟨fun ρ w' hW _ => ⟨rfl, hW.toExt⟩⟩
    · refine Run.callE (g := 35) (vs := [p.sv, s.sv, ii x]) (caps := []) (.tup [ii (mu : Int), ii (lam : Int), ii (cnt p s x mu lam : Int), ii 0]) (fun ρ w _ => (hcy w).mono fun _ w' ⟨he, hx⟩ => ⟨by rw [he]; rfl, hx⟩) (ent _ _ Try.func35 (by kernel_rfl) rfl) rfl rfl rfl rfl rfl rfl rfl ⟨trivial, trivial, trivial, trivial, trivial⟩ ?_
      have hpos := hic.pos
      have hcl := cnt_le p s x mu lam
      have hws : IntKind.i64.wrap ((mu : Int) + (lam : Int)) = (mu : Int) + (lam : Int) := W_id (by omega) (by omega)
      have hw2 : IntKind.i64.wrap (2 * (lam : Int)) = 2 * (lam : Int) := W_id (by omega) (by omega)
      have hw3 : IntKind.i64.wrap ((mu : Int) + 2 * (lam : Int)) = (mu : Int) + 2 * (lam : Int) := W_id (by omega) (by omega)
      refine Run.of_wpK (hc _ rfl) 1000 _ ?_
      conv => whnf
      rw [decide_eq_false (show ¬ (lam : Int) < 1 by omega)]
      conv => whnf
      rw [hws, decide_eq_false (show ¬ (65536 : Int) < (mu : Int) + (lam : Int) by omega)]
      conv => whnf
      rw [hws]
      cases h3k : decide ((3000 : Int) < (mu : Int) + (lam : Int))
      · have h3k := of_decide_eq_false h3k
        conv => whnf
        have hn0 : (nnc p s x mu lam 0 : Int) = 0 := by unfold nnc; rw [show min (0 - mu) lam = 0 by omega]; rfl
        refine Run.nilRow (T' := [(2, ii x), (3, .ptr 0 0), (4, .ptr 1 0), (7, ii (mu : Int)), (8, ii (lam : Int)), (9, ii (cnt p s x mu lam : Int)), (11, .opq 2), (12, ii (nnc p s x mu lam 0 : Int)), (13, ii 0)]) (M' := [(0, .cells p.cells 23), (1, .cells (sq p s x 0).cells 25), (2, .row 2 0 (sts p s x 0) 25)]) 2 25 (AllP.mem ⟨⟨_, rfl, .inl rfl⟩, ⟨_, rfl, .inl rfl⟩, ⟨_, rfl, .inl rfl⟩, ⟨_, rfl, .inl rfl⟩, ⟨_, rfl, .inl rfl⟩, ⟨_, rfl, .inl rfl⟩, ⟨_, rfl, .inr ⟨rfl, rfl⟩⟩, ⟨_, rfl, .inl (by rw [hn0])⟩, ⟨_, rfl, .inl rfl⟩, trivial⟩) (AllP.mem ⟨.inr ⟨_, rfl, .inl rfl⟩, .inr ⟨_, rfl, .inl rfl⟩, .inl rfl, trivial⟩) ?_
        refine Run.upTo (T := fun t => [(2, ii x), (3, .ptr 0 0), (4, .ptr 1 0), (7, ii (mu : Int)), (8, ii (lam : Int)), (9, ii (cnt p s x mu lam : Int)), (11, .opq 2), (12, ii (nnc p s x mu lam t : Int)), (13, ii (t : Int))]) (M := fun t => [(0, .cells p.cells 23), (1, .cells (sq p s x t).cells 25), (2, .row 2 t (sts p s x t) 25)]) (mu + 2 * lam + 1) ?_ ?_
        · intro t ht ih
          have hnl := nnc_le p s x mu lam t
          have hvt := vld_sq hv x t
          have hwt : IntKind.i64.wrap ((t : Int) + 1) = ((t + 1 : Nat) : Int) := wrap_succ (by omega)
          refine Run.of_wpK (hc _ rfl) 1000 _ ?_
          conv => whnf
          rw [hw2, hw3, decide_eq_true (show (t : Int) ≤ (mu : Int) + 2 * (lam : Int) by omega)]
          conv => whnf
          refine Run.append (hc _ rfl) rfl rfl rfl rfl rfl rfl rfl rfl rfl rfl rfl rfl rfl rfl rfl (by omega) ⟨by omega, by omega⟩ [(0, _), (1, _)] (AllP.mem ⟨⟨rfl, by omega⟩, ⟨rfl, by omega⟩, trivial⟩) ?_
          refine Run.of_wpK (hc _ rfl) 1000 _ ?_
          conv => whnf
          refine Run.callE (g := 15) (vs := [p.sv, (sq p s x t).sv, ii x]) (caps := []) (.tup [.agg [ii (stepS p (sq p s x t) x).v, ii (stepS p (sq p s x t) x).rest], .v (.bool (stepB p (sq p s x t) x)), ii 0]) (fun ρ w _ => (tick_call p _ _ hvt w).mono fun _ w' ⟨he, hx⟩ => ⟨by rw [he]; rfl, hx⟩) (ent _ _ Try.func15 (by kernel_rfl) rfl) rfl rfl rfl rfl rfl rfl rfl ⟨⟨trivial, trivial, trivial⟩, trivial, trivial, trivial⟩ ?_
          refine Run.of_wpK (hc _ rfl) 1000 _ ?_
          conv => whnf
          cases hf : stepB p (sq p s x t) x
          · conv => whnf
            rw [hwt]
            refine Run.trimR 2 4 3 (by omega) (T' := [(2, ii x), (3, .ptr 0 0), (4, .ptr 1 0), (7, ii (mu : Int)), (8, ii (lam : Int)), (9, ii (cnt p s x mu lam : Int)), (11, .opq 2), (12, ii (nnc p s x mu lam (t + 1) : Int)), (13, ii ((t + 1 : Nat) : Int))]) (M' := [(0, .cells p.cells 23), (1, .cells (sq p s x (t + 1)).cells 25), (2, .row 2 (t + 1) (sts p s x (t + 1)) 25)]) ?_ ?_ (fun q hq => by cases hq) ih
            · rw [nnc_same (.inl hf)]
              exact ⟨⟨rfl, trivial⟩, ⟨rfl, by simp [SV.sc]⟩, ⟨rfl, by simp [SV.sc]⟩, ⟨rfl, trivial⟩, ⟨rfl, trivial⟩, ⟨rfl, trivial⟩, ⟨rfl, by simp [SV.sc]⟩, ⟨rfl, trivial⟩, ⟨rfl, trivial⟩, trivial⟩
            · refine ⟨⟨rfl, by omega, by simp [SObj.sc, Prm.cells, SV.scs, SV.sc]⟩, ⟨rfl, by omega, by simp [SObj.sc, Ste.cells, SV.scs, SV.sc]⟩, ⟨?_, by omega, sts_sc _ _ _ _ _⟩, trivial⟩
              simp only [SObj.ren, sts_rens]
              rfl
          · conv => whnf
            cases h1 : decide ((mu : Int) ≤ (t : Int))
            · have h1 := of_decide_eq_false h1
              conv => whnf
              rw [hwt]
              refine Run.trimR 2 4 3 (by omega) (T' := [(2, ii x), (3, .ptr 0 0), (4, .ptr 1 0), (7, ii (mu : Int)), (8, ii (lam : Int)), (9, ii (cnt p s x mu lam : Int)), (11, .opq 2), (12, ii (nnc p s x mu lam (t + 1) : Int)), (13, ii ((t + 1 : Nat) : Int))]) (M' := [(0, .cells p.cells 23), (1, .cells (sq p s x (t + 1)).cells 25), (2, .row 2 (t + 1) (sts p s x (t + 1)) 25)]) ?_ ?_ (fun q hq => by cases hq) ih
              · rw [nnc_same (.inr (.inl (by omega)))]
                exact ⟨⟨rfl, trivial⟩, ⟨rfl, by simp [SV.sc]⟩, ⟨rfl, by simp [SV.sc]⟩, ⟨rfl, trivial⟩, ⟨rfl, trivial⟩, ⟨rfl, trivial⟩, ⟨rfl, by simp [SV.sc]⟩, ⟨rfl, trivial⟩, ⟨rfl, trivial⟩, trivial⟩
              · refine ⟨⟨rfl, by omega, by simp [SObj.sc, Prm.cells, SV.scs, SV.sc]⟩, ⟨rfl, by omega, by simp [SObj.sc, Ste.cells, SV.scs, SV.sc]⟩, ⟨?_, by omega, sts_sc _ _ _ _ _⟩, trivial⟩
                simp only [SObj.ren, sts_rens]
                rfl
            · have h1 := of_decide_eq_true h1
              conv => whnf
              rw [hws]
              cases h2 : decide ((t : Int) < (mu : Int) + (lam : Int))
              · have h2 := of_decide_eq_false h2
                conv => whnf
                rw [hwt]
                refine Run.trimR 2 4 3 (by omega) (T' := [(2, ii x), (3, .ptr 0 0), (4, .ptr 1 0), (7, ii (mu : Int)), (8, ii (lam : Int)), (9, ii (cnt p s x mu lam : Int)), (11, .opq 2), (12, ii (nnc p s x mu lam (t + 1) : Int)), (13, ii ((t + 1 : Nat) : Int))]) (M' := [(0, .cells p.cells 23), (1, .cells (sq p s x (t + 1)).cells 25), (2, .row 2 (t + 1) (sts p s x (t + 1)) 25)]) ?_ ?_ (fun q hq => by cases hq) ih
                · rw [nnc_same (.inr (.inr (by omega)))]
                  exact ⟨⟨rfl, trivial⟩, ⟨rfl, by simp [SV.sc]⟩, ⟨rfl, by simp [SV.sc]⟩, ⟨rfl, trivial⟩, ⟨rfl, trivial⟩, ⟨rfl, trivial⟩, ⟨rfl, by simp [SV.sc]⟩, ⟨rfl, trivial⟩, ⟨rfl, trivial⟩, trivial⟩
                · refine ⟨⟨rfl, by omega, by simp [SObj.sc, Prm.cells, SV.scs, SV.sc]⟩, ⟨rfl, by omega, by simp [SObj.sc, Ste.cells, SV.scs, SV.sc]⟩, ⟨?_, by omega, sts_sc _ _ _ _ _⟩, trivial⟩
                  simp only [SObj.ren, sts_rens]
                  rfl
              · have h2 := of_decide_eq_true h2
                conv => whnf
                rw [hwt, wrap_succ (i := nnc p s x mu lam t) (by omega)]
                refine Run.trimR 2 4 3 (by omega) (T' := [(2, ii x), (3, .ptr 0 0), (4, .ptr 1 0), (7, ii (mu : Int)), (8, ii (lam : Int)), (9, ii (cnt p s x mu lam : Int)), (11, .opq 2), (12, ii (nnc p s x mu lam (t + 1) : Int)), (13, ii ((t + 1 : Nat) : Int))]) (M' := [(0, .cells p.cells 23), (1, .cells (sq p s x (t + 1)).cells 25), (2, .row 2 (t + 1) (sts p s x (t + 1)) 25)]) ?_ ?_ (fun q hq => by cases hq) ih
                · rw [nnc_more hf (by omega) (by omega)]
                  exact ⟨⟨rfl, trivial⟩, ⟨rfl, by simp [SV.sc]⟩, ⟨rfl, by simp [SV.sc]⟩, ⟨rfl, trivial⟩, ⟨rfl, trivial⟩, ⟨rfl, trivial⟩, ⟨rfl, by simp [SV.sc]⟩, ⟨rfl, trivial⟩, ⟨rfl, trivial⟩, trivial⟩
                · refine ⟨⟨rfl, by omega, by simp [SObj.sc, Prm.cells, SV.scs, SV.sc]⟩, ⟨rfl, by omega, by simp [SObj.sc, Ste.cells, SV.scs, SV.sc]⟩, ⟨?_, by omega, sts_sc _ _ _ _ _⟩, trivial⟩
                  simp only [SObj.ren, sts_rens]
                  rfl
        · have hnn : nnc p s x mu lam (mu + 2 * lam + 1) = cnt p s x mu lam := by unfold nnc; rw [show min (mu + 2 * lam + 1 - mu) lam = lam by omega]
          have heq2 : sq p s x mu = sq p s x (mu + 2 * lam) := by
            have := sq_shift hic.eq lam
            rw [show mu + lam + lam = mu + 2 * lam by omega] at this
            rw [hic.eq]; exact this
          refine Run.of_wpK (hc _ rfl) 1000 _ ?_
          conv => whnf
          rw [hw2, hw3, decide_eq_false (show ¬ ((mu + 2 * lam + 1 : Nat) : Int) ≤ (mu : Int) + 2 * (lam : Int) by omega)]
          conv => whnf
          rw [wrap_succ (i := mu) (by omega), hnn]
          refine Run.trim (T' := [(2, ii x), (3, .ptr 0 0), (4, .ptr 1 0), (7, ii (mu : Int)), (8, ii (lam : Int)), (9, ii (cnt p s x mu lam : Int)), (11, .opq 2), (12, ii (cnt p s x mu lam : Int)), (17, ii ((mu + 1 + 0 : Nat) : Int))]) (M' := [(0, .cells p.cells 23), (1, .cells (sq p s x (mu + 2 * lam + 1)).cells 25), (2, .row 2 (mu + 2 * lam + 1) (sts p s x (mu + 2 * lam + 1)) 25)]) 3 ⟨⟨rfl, trivial⟩, ⟨rfl, by simp [SV.sc]⟩, ⟨rfl, by simp [SV.sc]⟩, ⟨rfl, trivial⟩, ⟨rfl, trivial⟩, ⟨rfl, trivial⟩, ⟨rfl, by simp [SV.sc]⟩, ⟨rfl, trivial⟩, ⟨rfl, trivial⟩, trivial⟩ ⟨⟨rfl, by omega, by simp [SObj.sc, Prm.cells, SV.scs, SV.sc]⟩, ⟨rfl, by omega, by simp [SObj.sc, Ste.cells, SV.scs, SV.sc]⟩, ⟨rfl, by omega, sts_sc _ _ _ _ _⟩, trivial⟩ (fun p hp => by cases hp) ?_
          refine Run.upTo (T := fun j => [(2, ii x), (3, .ptr 0 0), (4, .ptr 1 0), (7, ii (mu : Int)), (8, ii (lam : Int)), (9, ii (cnt p s x mu lam : Int)), (11, .opq 2), (12, ii (cnt p s x mu lam : Int)), (17, ii ((mu + 1 + j : Nat) : Int))]) (M := fun j => [(0, .cells p.cells 23), (1, .cells (sq p s x (mu + 2 * lam + 1)).cells 25), (2, .row 2 (mu + 2 * lam + 1) (sts p s x (mu + 2 * lam + 1)) 25)]) (lam - 1) ?_ ?_
          · intro j hj ih
            refine Run.of_wpK (hc _ rfl) 1000 _ ?_
            conv => whnf
            rw [hws, decide_eq_true (show ((mu + 1 + j : Nat) : Int) < (mu : Int) + (lam : Int) by omega)]
            conv => whnf
            refine Run.draw (hc _ rfl) 8 ?_
            rw [show upto 0 8 = upto 0 4 ++ upto 4 4 from rfl, drawK_app]
            conv => whnf
            refine ⟨⟨by omega, by omega⟩, ?_⟩
            conv => whnf
            rw [opF_load_agg rfl rfl rfl rfl (sts_at (i := mu + 1 + j) (by omega))]
            conv => whnf
            refine ⟨⟨by omega, by omega⟩, ?_⟩
            conv => whnf
            rw [opF_load_agg rfl rfl rfl rfl (sts_at (i := mu) (by omega))]
            conv => whnf
            refine ⟨by kernel_rfl, ?_⟩
            refine Run.of_wpK (hc _ rfl) 1000 _ ?_
            conv => whnf
            have hq : same (sq p s x (mu + 1 + j)) (sq p s x mu) = false := by
              cases hq : same (sq p s x (mu + 1 + j)) (sq p s x mu)
              · rfl
              · refine absurd ((same_iff _ _).1 hq) ?_
                rw [show mu + 1 + j = mu + (1 + j) by omega]
                exact hic.least (1 + j) (by omega) (by omega)
            rw [show ((sq p s x (mu + 1 + j)).v == (sq p s x mu).v && ((sq p s x (mu + 1 + j)).rest == (sq p s x mu).rest && true)) = false from hq]
            conv => whnf
            rw [wrap_succ (i := mu + 1 + j) (by omega)]
            exact Run.trim (T' := [(2, ii x), (3, .ptr 0 0), (4, .ptr 1 0), (7, ii (mu : Int)), (8, ii (lam : Int)), (9, ii (cnt p s x mu lam : Int)), (11, .opq 2), (12, ii (cnt p s x mu lam : Int)), (17, ii ((mu + 1 + (j + 1) : Nat) : Int))]) (M' := [(0, .cells p.cells 23), (1, .cells (sq p s x (mu + 2 * lam + 1)).cells 25), (2, .row 2 (mu + 2 * lam + 1) (sts p s x (mu + 2 * lam + 1)) 25)]) 3 ⟨⟨rfl, trivial⟩, ⟨rfl, by simp [SV.sc]⟩, ⟨rfl, by simp [SV.sc]⟩, ⟨rfl, trivial⟩, ⟨rfl, trivial⟩, ⟨rfl, trivial⟩, ⟨rfl, by simp [SV.sc]⟩, ⟨rfl, trivial⟩, ⟨rfl, trivial⟩, trivial⟩ ⟨⟨rfl, by omega, by simp [SObj.sc, Prm.cells, SV.scs, SV.sc]⟩, ⟨rfl, by omega, by simp [SObj.sc, Ste.cells, SV.scs, SV.sc]⟩, ⟨rfl, by omega, sts_sc _ _ _ _ _⟩, trivial⟩ (fun p hp => by cases hp) ih
          · refine Run.of_wpK (hc _ rfl) 1000 _ ?_
            conv => whnf
            rw [hws, decide_eq_false (show ¬ ((mu + 1 + (lam - 1) : Nat) : Int) < (mu : Int) + (lam : Int) by omega)]
            conv => whnf
            refine Run.draw (hc _ rfl) 15 ?_
            rw [show upto 0 15 = upto 0 4 ++ (upto 4 4 ++ upto 8 7) from rfl]
            simp only [drawK_app]
            conv => whnf
            cases h0 : decide ((0 : Int) < (mu : Int))
            · conv => whnf
              refine ⟨by kernel_rfl, ?_⟩
              refine Run.of_wpK (hc _ rfl) 1000 _ ?_
              conv => whnf
              refine Run.draw (hc _ rfl) 28 ?_
              rw [show upto 0 28 = upto 0 4 ++ (upto 4 6 ++ (upto 10 3 ++ (upto 13 3 ++ (upto 16 7 ++ (upto 23 4 ++ upto 27 1))))) from rfl]
              simp only [drawK_app]
              conv => whnf
              refine ⟨⟨by omega, by omega⟩, ?_⟩
              conv => whnf
              rw [opF_load_agg rfl rfl rfl rfl (sts_at (i := mu) (by omega))]
              conv => whnf
              rw [hws]
              refine ⟨⟨by omega, by omega⟩, ?_⟩
              conv => whnf
              rw [show ((mu : Int) + (lam : Int)) = ((mu + lam : Nat) : Int) by omega]
              rw [opF_load_agg rfl rfl rfl rfl (sts_at (i := mu + lam) (by omega))]
              conv => whnf
              rw [show ((sq p s x mu).v == (sq p s x (mu + lam)).v && ((sq p s x mu).rest == (sq p s x (mu + lam)).rest && true)) = true from (same_iff _ _).2 hic.eq]
              conv => whnf
              refine ⟨⟨by omega, by omega⟩, ?_⟩
              conv => whnf
              rw [opF_load_agg rfl rfl rfl rfl (sts_at (i := mu) (by omega))]
              conv => whnf
              rw [hw2, hw3]
              refine ⟨⟨by omega, by omega⟩, ?_⟩
              conv => whnf
              rw [show ((mu : Int) + 2 * (lam : Int)) = ((mu + 2 * lam : Nat) : Int) by omega]
              rw [opF_load_agg rfl rfl rfl rfl (sts_at (i := mu + 2 * lam) (by omega))]
              conv => whnf
              rw [show ((sq p s x mu).v == (sq p s x (mu + 2 * lam)).v && ((sq p s x mu).rest == (sq p s x (mu + 2 * lam)).rest && true)) = true from (same_iff _ _).2 heq2]
              conv => whnf
              refine ⟨by kernel_rfl, ?_⟩
              refine Run.of_wpK (hc _ rfl) 1000 _ ?_
              conv => whnf
              rw [show ((cnt p s x mu lam : Int) == (cnt p s x mu lam : Int)) = true by simp]
              conv => whnf
              exact ⟨fun ρ w' hW _ => ⟨rfl, hW.toExt⟩⟩
            · have h0 := of_decide_eq_true h0
              have hwm : IntKind.i64.wrap ((mu : Int) - 1) = ((mu - 1 : Nat) : Int) := by
                have := W_id (a := (mu : Int) - 1) (by omega) (by omega)
                simp only [W] at this
                rw [this]; omega
              have hwml : IntKind.i64.wrap ((mu : Int) + (lam : Int) - 1) = ((mu - 1 + lam : Nat) : Int) := by
                have := W_id (a := (mu : Int) + (lam : Int) - 1) (by omega) (by omega)
                simp only [W] at this
                rw [this]; omega
              conv => whnf
              rw [hwm]
              refine ⟨⟨by omega, by omega⟩, ?_⟩
              conv => whnf
              rw [opF_load_agg rfl rfl rfl rfl (sts_at (i := mu - 1) (by omega))]
              conv => whnf
              rw [hws, hwml]
              refine ⟨⟨by omega, by omega⟩, ?_⟩
              conv => whnf
              rw [opF_load_agg rfl rfl rfl rfl (sts_at (i := mu - 1 + lam) (by omega))]
              conv => whnf
              refine ⟨by kernel_rfl, ?_⟩
              refine Run.of_wpK (hc _ rfl) 1000 _ ?_
              conv => whnf
              have hq : same (sq p s x (mu - 1)) (sq p s x (mu - 1 + lam)) = false := by
                cases hq : same (sq p s x (mu - 1)) (sq p s x (mu - 1 + lam))
                · rfl
                · exact absurd ((same_iff _ _).1 hq) (hic.first (mu - 1) (by omega))
              rw [show ((sq p s x (mu - 1)).v == (sq p s x (mu - 1 + lam)).v && ((sq p s x (mu - 1)).rest == (sq p s x (mu - 1 + lam)).rest && true)) = false from hq]
              conv => whnf
              refine Run.draw (hc _ rfl) 28 ?_
              rw [show upto 0 28 = upto 0 4 ++ (upto 4 6 ++ (upto 10 3 ++ (upto 13 3 ++ (upto 16 7 ++ (upto 23 4 ++ upto 27 1))))) from rfl]
              simp only [drawK_app]
              conv => whnf
              refine ⟨⟨by omega, by omega⟩, ?_⟩
              conv => whnf
              rw [opF_load_agg rfl rfl rfl rfl (sts_at (i := mu) (by omega))]
              conv => whnf
              rw [hws]
              refine ⟨⟨by omega, by omega⟩, ?_⟩
              conv => whnf
              rw [show ((mu : Int) + (lam : Int)) = ((mu + lam : Nat) : Int) by omega]
              rw [opF_load_agg rfl rfl rfl rfl (sts_at (i := mu + lam) (by omega))]
              conv => whnf
              rw [show ((sq p s x mu).v == (sq p s x (mu + lam)).v && ((sq p s x mu).rest == (sq p s x (mu + lam)).rest && true)) = true from (same_iff _ _).2 hic.eq]
              conv => whnf
              refine ⟨⟨by omega, by omega⟩, ?_⟩
              conv => whnf
              rw [opF_load_agg rfl rfl rfl rfl (sts_at (i := mu) (by omega))]
              conv => whnf
              rw [hw2, hw3]
              refine ⟨⟨by omega, by omega⟩, ?_⟩
              conv => whnf
              rw [show ((mu : Int) + 2 * (lam : Int)) = ((mu + 2 * lam : Nat) : Int) by omega]
              rw [opF_load_agg rfl rfl rfl rfl (sts_at (i := mu + 2 * lam) (by omega))]
              conv => whnf
              rw [show ((sq p s x mu).v == (sq p s x (mu + 2 * lam)).v && ((sq p s x mu).rest == (sq p s x (mu + 2 * lam)).rest && true)) = true from (same_iff _ _).2 heq2]
              conv => whnf
              refine ⟨by kernel_rfl, ?_⟩
              refine Run.of_wpK (hc _ rfl) 1000 _ ?_
              conv => whnf
              rw [show ((cnt p s x mu lam : Int) == (cnt p s x mu lam : Int)) = true by simp]
              conv => whnf
              exact ⟨fun ρ w' hW _ => ⟨rfl, hW.toExt⟩⟩
      · conv => whnf
        exact ⟨fun ρ w' hW _ => ⟨rfl, hW.toExt⟩⟩
  · refine Run.callE (g := 35) (vs := [p.sv, s.sv, ii x]) (caps := []) (.tup [ii 0, ii 0, ii 0, ii (vd p s)]) (fun ρ w _ => (Cycle_bad p s x w hv).mono fun _ w' ⟨he, hx⟩ => ⟨by rw [he, hvd]; rfl, hx⟩) (ent _ _ Try.func35 (by kernel_rfl) rfl) rfl rfl rfl rfl rfl rfl rfl ⟨trivial, trivial, trivial, trivial, trivial⟩ ?_
    refine Run.of_wpK (hc _ rfl) 1000 _ ?_
    conv => whnf
    rw [show (vd p s != 0) = true by rw [hvd] at hv; simpa using hv]
    conv => whnf
    rw [show (vd p s == vd ⟨p.lk, p.leak, p.bias, p.thr, p.rk, p.reset, p.floor, p.rest⟩ ⟨s.v, s.rest⟩) = true from beq_self_eq_true (vd p s)]
    conv => whnf
    exact ⟨fun ρ w' hW _ => ⟨rfl, hW.toExt⟩⟩
end Go.Proofs.Ytoipnojibkjjnaa
