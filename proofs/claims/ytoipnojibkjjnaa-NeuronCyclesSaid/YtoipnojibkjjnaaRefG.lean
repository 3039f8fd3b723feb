/-
  Walk of a function of package ganglionref01 (part G): 'Cycle': what it computes.
  For every neuron; the world only gets new blocks.
-/
import Derived.Test.YtoipnojibkjjnaaNeuO
import Derived.Test.YtoipnojibkjjnaaPlainF
import Derived.Test.YtoipnojibkjjnaaRefD
import Derived.Test.YtoipnojibkjjnaaLawC
namespace Go.Proofs.Ytoipnojibkjjnaa
open Go.Sx
set_option maxRecDepth 100000

def ent1 (p : Prm) (s : Ste) (x : Int) (j : Nat) : MapEntry := { key := kv (sq p s x j), val := .int .i64 (j : Int), born := j }
/-- The entries behind i ticks. -/
def ents (p : Prm) (s : Ste) (x : Int) (i : Nat) : Array MapEntry := ((List.range (i + 1)).map (ent1 p s x)).toArray
/-- The spikes ahead of each state. -/
def cnts (p : Prm) (s : Ste) (x : Int) (i : Nat) : List Int := (List.range (i + 1)).map fun j => (cnt p s x 0 j : Int)
theorem ents_push (p : Prm) (s : Ste) (x : Int) (i : Nat) : (ents p s x i).push (ent1 p s x (i + 1)) = ents p s x (i + 1) := by
  unfold ents
  rw [List.range_succ (n := i + 1)]
  simp
theorem cnts_push (p : Prm) (s : Ste) (x : Int) (i : Nat) : cnts p s x i ++ [(cnt p s x 0 (i + 1) : Int)] = cnts p s x (i + 1) := by
  unfold cnts
  rw [List.range_succ (n := i + 1)]
  simp
theorem cnts_length (p : Prm) (s : Ste) (x : Int) (i : Nat) : (cnts p s x i).length = i + 1 := by simp [cnts]
theorem cnts_at (p : Prm) (s : Ste) (x : Int) {i j : Nat} (h : j < i + 1) : Sx.get ((cnts p s x i).map fun x => SV.v (.int .i64 x)) (idx (j : Int) 1) = some (.v (.int .i64 (cnt p s x 0 j : Int))) := by
  have hl := cnts_length p s x i
  rw [get_row (by omega)]
  simp [cnts]
theorem cnt_add (p : Prm) (s : Ste) (x : Int) (a : Nat) : ∀ k, cnt p s x 0 (a + k) = cnt p s x 0 a + cnt p s x a k
  | 0 => rfl
  | k + 1 => by
    have := cnt_add p s x a k
    rw [← Nat.add_assoc, cnt, cnt, this, Nat.zero_add]
    omega
theorem ents_none {p : Prm} {s : Ste} {x : Int} {i : Nat} (h : ∀ j, j ≤ i → sq p s x j ≠ sq p s x (i + 1)) (w : World) : (Instr.findAsking 25 (kv (sq p s x (i + 1))) (ents p s x i).toList 0).run Try.prog w = .ok none w := by
  refine ask_none _ w _ 0 (fun e he => ?_)
  simp only [ents, List.mem_map, List.mem_range] at he
  obtain ⟨j, hj, rfl⟩ := he
  refine ⟨sq p s x j, rfl, ?_⟩
  cases hq : same (sq p s x (i + 1)) (sq p s x j)
  · rfl
  · exact absurd ((same_iff _ _).1 hq).symm (h j (by omega))
theorem ents_some {p : Prm} {s : Ste} {x : Int} {i mu : Nat} (hm : mu ≤ i) (he : sq p s x mu = sq p s x (i + 1)) (h : ∀ j, j < mu → sq p s x j ≠ sq p s x (i + 1)) (w : World) : (Instr.findAsking 25 (kv (sq p s x (i + 1))) (ents p s x i).toList 0).run Try.prog w = .ok (some (mu, .int .i64 (mu : Int))) w := by
  have hget : ∀ j, j ≤ i → (ents p s x i).toList[j]? = some (ent1 p s x j) := fun j hj => by
    simp [ents, List.getElem?_map, List.getElem?_range (show j < i + 1 by omega)]
  have := ask_some (sq p s x (i + 1)) w (ents p s x i).toList 0 mu _ (hget mu hm) (by rw [← he]; rfl) (fun k e' hk he' => ?_)
  · rw [Nat.zero_add] at this; exact this
  · rw [hget k (by omega)] at he'
    obtain rfl := Option.some.inj he'
    refine ⟨sq p s x k, rfl, ?_⟩
    cases hq : same (sq p s x (i + 1)) (sq p s x k)
    · rfl
    · exact absurd ((same_iff _ _).1 hq).symm (h k hk)

/-- What the search in the order of the ticks finds: 'N' ticks without a return, and then. -/
def cycR (p : Prm) (s : Ste) (x : Int) (N mu : Nat) : Value := if N = 65536 then .tuple #[.int .i64 0, .int .i64 0, .int .i64 0, .int .i64 8] else .tuple #[.int .i64 (mu : Int), .int .i64 ((N + 1 - mu : Nat) : Int), .int .i64 (cnt p s x mu (N + 1 - mu) : Int), .int .i64 0]
theorem rCycle_run (p : Prm) (s : Ste) (x : Int) (w : World) (h : vld p s = 0) (N mu : Nat) (hN : N ≤ 65536) (hap : ∀ i, i < N → ∀ j, j ≤ i → sq p s x j ≠ sq p s x (i + 1)) (hmu : N ≠ 65536 → mu ≤ N ∧ sq p s x mu = sq p s x (N + 1) ∧ ∀ j, j < mu → sq p s x j ≠ sq p s x (N + 1)) :
    Calls Try.prog 36 #[p.sv.conc env0, s.sv.conc env0, .int .i64 x] w fun e w' => e = .returned (cycR p s x N mu) ∧ Ext w w' := by
  obtain ⟨vd, hvd⟩ : ∃ vd : Prm → Ste → Int, vld = vd := ⟨vld, rfl⟩
  obtain ⟨rS, hrS⟩ : ∃ f, rstepS = f := ⟨_, rfl⟩
  obtain ⟨rB, hrB⟩ : ∃ f, rstepB = f := ⟨_, rfl⟩
  have hpf : PF.oks Try.prog [(26, FPS fun p s => .int .i64 (vd p s)), (41, FPSI fun p s x => .tup [.agg [ii (rS p s x).v, ii (rS p s x).rest], .v (.bool (rB p s x))])] := by rw [← hvd, ← hrS, ← hrB]; exact ⟨rvalid_pure, go_pure, trivial⟩
  have hc : ∀ f fn cuts L, Try.prog.funcs[f]? = some fn → Cx.ok ⟨Try.prog, tab, [(26, FPS fun p s => .int .i64 (vd p s)), (41, FPSI fun p s x => .tup [.agg [ii (rS p s x).v, ii (rS p s x).rest], .v (.bool (rB p s x))])], f, fn, cuts, w, L, none⟩ := fun f fn cuts L h => ⟨tab_ok, hpf, h, mixed, fun _ h => by cases h⟩
  have hvs : ∀ i, vld p (sq p s x i) = 0 := by
    intro i
    induction i with
    | zero => exact h
    | succ i ih => exact vld_step ih x
  obtain ⟨kk, hkk⟩ : ∃ kk : Nat → Int, ∀ i, kk i = ((i + 1 : Nat) : Int) := ⟨_, fun _ => rfl⟩
  have hk0 : kk 0 = 1 := hkk 0
  have hwid : ∀ {b : Nat}, w.heap.size ≤ b → Widens w [] [(2, b)] := fun hb => ⟨fun q hq => (by cases hq), fun q hq => (by simp at hq; subst hq; exact .inr hb)⟩
  have hst : ∀ i, rS p (sq p s x i) x = sq p s x (i + 1) ∧ rB p (sq p s x i) x = stepB p (sq p s x i) x := fun i => by
    obtain ⟨hg, _, hr, _⟩ := vld_good.1 (hvs i)
    obtain ⟨e1, e2⟩ := step_same (chk_good.2 hg) hr x
    rw [← hrS, ← hrB]
    exact ⟨e1.symm, e2.symm⟩
  refine Run.start0 (tab := tab) (pf := [(26, FPS fun p s => .int .i64 (vd p s)), (41, FPSI fun p s x => .tup [.agg [ii (rS p s x).v, ii (rS p s x).rest], .v (.bool (rB p s x))])]) (cuts := []) mixed tab_ok hpf Try.func36 rfl [p.sv, s.sv, ii x] 1000 (by simp [SV.scs, SV.sc, Prm.sv, Prm.cells, Ste.sv, Ste.cells]) rfl ?_
  conv => whnf
  rw [show vd ⟨p.lk, p.leak, p.bias, p.thr, p.rk, p.reset, p.floor, p.rest⟩ ⟨s.v, s.rest⟩ = 0 by rw [← hvd]; exact h]
  conv => whnf
  refine Run.makeMap rfl rfl rfl rfl ?_
  intro b hb
  refine Run.of_wpK (c := ⟨Try.prog, tab, [(26, FPS fun p s => .int .i64 (vd p s)), (41, FPSI fun p s x => .tup [.agg [ii (rS p s x).v, ii (rS p s x).rest], .v (.bool (rB p s x))])], 36, Try.f36, [], w, [(2, b)], none⟩) (hc _ _ _ _ Try.func36) 1000 _ ?_
  conv => whnf
  refine Run.mapPut (j := 2) (ob := .map #[] 0) (ob' := .map (ents p s x 0) 1) (ks := s.sv) (vs := ii 0) rfl (.inr rfl) rfl rfl rfl rfl rfl rfl (by simp) (by simp) (fun ρ w1 h1 => put_new (t := s) (v := .int .i64 0) h1 (by simp [Instr.findAsking])) ?_
  refine Run.of_wpK (hc _ _ _ _ Try.func36) 1000 _ ?_
  conv => whnf
  refine Run.slcRow (T' := [(2, ii x), (3, .ptr 0 0), (4, .ptr 1 0), (11, .v (.map (some b))), (12, .opq 4), (13, ii 1)]) (M' := [(0, .cells p.cells 23), (1, .cells s.cells 25), (2, .obj (.map (ents p s x 0) 1))]) 3 _ _ rfl (by simp) (AllP.mem ⟨.inl rfl, .inl rfl, .inl rfl, .inl rfl, .inr ⟨rfl, rfl⟩, .inl rfl, trivial⟩) (AllP.mem ⟨⟨rfl, by omega⟩, ⟨rfl, by omega⟩, ⟨rfl, by omega⟩, trivial⟩) ?_
  refine Run.trim (T' := [(2, ii x), (3, .ptr 0 0), (4, .ptr 1 0), (11, .v (.map (some b))), (12, .opq 4), (13, ii (kk 0))]) (M' := [(0, .cells p.cells 23), (1, .cells (sq p s x 0).cells 25), (2, .obj (.map (ents p s x 0) (0 + 1))), (4, .row 1 (0 + 1) ((cnts p s x 0).map fun x => .v (.int .i64 x)) 3)]) 5 ⟨⟨rfl, trivial⟩, ⟨rfl, by simp [SV.sc]⟩, ⟨rfl, by simp [SV.sc]⟩, ⟨rfl, trivial⟩, ⟨rfl, by simp [SV.sc]⟩, ⟨by rw [hk0]; rfl, trivial⟩, trivial⟩ ⟨⟨rfl, by omega, by simp [SObj.sc, Prm.cells, SV.scs, SV.sc]⟩, ⟨rfl, by omega, by simp [SObj.sc, Ste.cells, SV.scs, SV.sc]⟩, ⟨rfl, by omega, trivial⟩, ⟨rfl, by omega, scs_i _ _⟩, trivial⟩ (fun q hq => by simp at hq; subst hq; omega) ?_
  refine Run.upTo (T := fun i => [(2, ii x), (3, .ptr 0 0), (4, .ptr 1 0), (11, .v (.map (some b))), (12, .opq 4), (13, ii (kk i))]) (M := fun i => [(0, .cells p.cells 23), (1, .cells (sq p s x i).cells 25), (2, .obj (.map (ents p s x i) (i + 1))), (4, .row 1 (i + 1) ((cnts p s x i).map fun x => .v (.int .i64 x)) 3)]) N ?_ ?_
  · intro i hi ih
    have hapi := hap i hi
    have hkn : IntKind.i64.wrap (kk i + 1) = kk (i + 1) := by
      rw [hkk, hkk]
      exact (W_id (by omega) (by omega)).trans (by omega)
    have hstep := hst i
    refine Run.of_wpK (hc _ _ _ _ Try.func36) 1000 _ ?_
    conv => whnf
    rw [decide_eq_true (show kk i ≤ 65536 by rw [hkk]; omega)]
    conv => whnf
    have e1 : rS ⟨p.lk, p.leak, p.bias, p.thr, p.rk, p.reset, p.floor, p.rest⟩ ⟨(sq p s x i).v, (sq p s x i).rest⟩ x = sq p s x (i + 1) := (hst i).1
    have e2 : rB ⟨p.lk, p.leak, p.bias, p.thr, p.rk, p.reset, p.floor, p.rest⟩ ⟨(sq p s x i).v, (sq p s x i).rest⟩ x = stepB p (sq p s x i) x := (hst i).2
    have hkw : IntKind.i64.wrap (kk i - 1) = ((i : Nat) : Int) := by
      rw [hkk]
      exact (W_id (by omega) (by omega)).trans (by omega)
    have hcl := cnt_le p s x 0 i
    have hcs : cnt p s x 0 (i + 1) = cnt p s x 0 i + (if stepB p (sq p s x i) x then 1 else 0) := by rw [cnt, Nat.zero_add]
    rw [hkw, e1, e2]
    refine ⟨by omega, ?_⟩
    conv => whnf
    rw [opF_load_at rfl rfl rfl rfl (cnts_at p s x (by omega))]
    conv => whnf
    cases hf : stepB p (sq p s x i) x
    · rw [hf] at hcs
      conv => whnf
      refine Run.mapLookup (j := 2) (ob := .map (ents p s x i) (i + 1)) (ks := (sq p s x (i + 1)).sv) rfl rfl rfl rfl rfl rfl rfl (by simp) (.tup [ii 0, .v (.bool false)]) ⟨trivial, trivial, trivial⟩ (fun ρ w1 h1 => lookup_none (t := sq p s x (i + 1)) h1 (ents_none hapi w1)) ?_
      refine Run.of_wpK (hc _ _ _ _ Try.func36) 1000 _ ?_
      conv => whnf
      refine Run.mapPut (j := 2) (ob := .map (ents p s x i) (i + 1)) (ob' := .map (ents p s x (i + 1)) (i + 1 + 1)) (ks := (sq p s x (i + 1)).sv) (vs := ii (kk i)) rfl (.inl rfl) rfl rfl rfl rfl rfl rfl (by simp) (by simp) (fun ρ w1 h1 => ?_) ?_
      · have := put_new (t := sq p s x (i + 1)) (v := .int .i64 (kk i)) h1 (ents_none hapi w1)
        rw [show (ents p s x i).push { key := kv (sq p s x (i + 1)), val := .int .i64 (kk i), born := i + 1 } = ents p s x (i + 1) by rw [hkk]; exact ents_push p s x i] at this
        exact this
      refine Run.of_wpK (hc _ _ _ _ Try.func36) 1000 _ ?_
      conv => whnf
      refine Run.append (hc _ _ _ _ Try.func36) rfl rfl rfl rfl rfl rfl rfl rfl rfl rfl rfl rfl rfl rfl rfl (by omega) ⟨by omega, by omega⟩ [(0, _), (1, _), (2, _)] (AllP.mem ⟨⟨rfl, by omega⟩, ⟨rfl, by omega⟩, ⟨rfl, by omega⟩, trivial⟩) ?_
      refine Run.of_wpK (hc _ _ _ _ Try.func36) 1000 _ ?_
      conv => whnf
      rw [hkn]
      refine Run.trimR 4 7 5 (by omega) (T' := [(2, ii x), (3, .ptr 0 0), (4, .ptr 1 0), (11, .v (.map (some b))), (12, .opq 4), (13, ii (kk (i + 1)))]) (M' := [(0, .cells p.cells 23), (1, .cells (sq p s x (i + 1)).cells 25), (2, .obj (.map (ents p s x (i + 1)) ((i + 1) + 1))), (4, .row 1 ((i + 1) + 1) ((cnts p s x (i + 1)).map fun x => .v (.int .i64 x)) 3)]) ?_ ?_ (fun q hq => by simp at hq; subst hq; exact ⟨rfl, by omega⟩) ih
      · exact ⟨⟨rfl, trivial⟩, ⟨rfl, by simp [SV.sc]⟩, ⟨rfl, by simp [SV.sc]⟩, ⟨rfl, trivial⟩, ⟨rfl, by simp [SV.sc]⟩, ⟨rfl, trivial⟩, trivial⟩
      · refine ⟨⟨rfl, by omega, by simp [SObj.sc, Prm.cells, SV.scs, SV.sc]⟩, ⟨rfl, by omega, by simp [SObj.sc, Ste.cells, SV.scs, SV.sc]⟩, ⟨rfl, by omega, trivial⟩, ⟨?_, by omega, scs_i _ _⟩, trivial⟩
        refine Eq.trans (b := some (SObj.row 1 (i + 1 + 1) ((cnts p s x i).map (fun x => .v (.int .i64 x)) ++ [.v (.int .i64 ((cnt p s x 0 i : Int)))]) 3)) rfl ?_
        simp only [SObj.ren, rens_i]
        rw [← cnts_push, show ((cnt p s x 0 i : Int)) = (cnt p s x 0 (i + 1) : Int) from by rw [hcs]; simp, List.map_append]
        rfl
    · rw [hf] at hcs
      conv => whnf
      refine Run.mapLookup (j := 2) (ob := .map (ents p s x i) (i + 1)) (ks := (sq p s x (i + 1)).sv) rfl rfl rfl rfl rfl rfl rfl (by simp) (.tup [ii 0, .v (.bool false)]) ⟨trivial, trivial, trivial⟩ (fun ρ w1 h1 => lookup_none (t := sq p s x (i + 1)) h1 (ents_none hapi w1)) ?_
      refine Run.of_wpK (hc _ _ _ _ Try.func36) 1000 _ ?_
      conv => whnf
      refine Run.mapPut (j := 2) (ob := .map (ents p s x i) (i + 1)) (ob' := .map (ents p s x (i + 1)) (i + 1 + 1)) (ks := (sq p s x (i + 1)).sv) (vs := ii (kk i)) rfl (.inl rfl) rfl rfl rfl rfl rfl rfl (by simp) (by simp) (fun ρ w1 h1 => ?_) ?_
      · have := put_new (t := sq p s x (i + 1)) (v := .int .i64 (kk i)) h1 (ents_none hapi w1)
        rw [show (ents p s x i).push { key := kv (sq p s x (i + 1)), val := .int .i64 (kk i), born := i + 1 } = ents p s x (i + 1) by rw [hkk]; exact ents_push p s x i] at this
        exact this
      refine Run.of_wpK (hc _ _ _ _ Try.func36) 1000 _ ?_
      conv => whnf
      refine Run.append (hc _ _ _ _ Try.func36) rfl rfl rfl rfl rfl rfl rfl rfl rfl rfl rfl rfl rfl rfl rfl (by omega) ⟨by omega, by omega⟩ [(0, _), (1, _), (2, _)] (AllP.mem ⟨⟨rfl, by omega⟩, ⟨rfl, by omega⟩, ⟨rfl, by omega⟩, trivial⟩) ?_
      refine Run.of_wpK (hc _ _ _ _ Try.func36) 1000 _ ?_
      conv => whnf
      rw [hkn]
      refine Run.trimR 4 7 5 (by omega) (T' := [(2, ii x), (3, .ptr 0 0), (4, .ptr 1 0), (11, .v (.map (some b))), (12, .opq 4), (13, ii (kk (i + 1)))]) (M' := [(0, .cells p.cells 23), (1, .cells (sq p s x (i + 1)).cells 25), (2, .obj (.map (ents p s x (i + 1)) ((i + 1) + 1))), (4, .row 1 ((i + 1) + 1) ((cnts p s x (i + 1)).map fun x => .v (.int .i64 x)) 3)]) ?_ ?_ (fun q hq => by simp at hq; subst hq; exact ⟨rfl, by omega⟩) ih
      · exact ⟨⟨rfl, trivial⟩, ⟨rfl, by simp [SV.sc]⟩, ⟨rfl, by simp [SV.sc]⟩, ⟨rfl, trivial⟩, ⟨rfl, by simp [SV.sc]⟩, ⟨rfl, trivial⟩, trivial⟩
      · refine ⟨⟨rfl, by omega, by simp [SObj.sc, Prm.cells, SV.scs, SV.sc]⟩, ⟨rfl, by omega, by simp [SObj.sc, Ste.cells, SV.scs, SV.sc]⟩, ⟨rfl, by omega, trivial⟩, ⟨?_, by omega, scs_i _ _⟩, trivial⟩
        refine Eq.trans (b := some (SObj.row 1 (i + 1 + 1) ((cnts p s x i).map (fun x => .v (.int .i64 x)) ++ [.v (.int .i64 (IntKind.i64.wrap ((cnt p s x 0 i : Int) + 1)))]) 3)) rfl ?_
        simp only [SObj.ren, rens_i]
        rw [← cnts_push, show (IntKind.i64.wrap ((cnt p s x 0 i : Int) + 1)) = (cnt p s x 0 (i + 1) : Int) from by rw [hcs, wrap_succ (by omega)]; simp, List.map_append]
        rfl
  · refine Run.of_wpK (hc _ _ _ _ Try.func36) 1000 _ ?_
    conv => whnf
    by_cases hN6 : N = 65536
    · rw [decide_eq_false (show ¬ kk N ≤ 65536 by rw [hkk, hN6]; decide)]
      conv => whnf
      unfold cycR
      rw [if_pos hN6]
      exact ⟨fun ρ w' hW _ => ⟨rfl, (hW.narrow (hwid hb)).toExt⟩⟩
    · obtain ⟨hm1, hm2, hm3⟩ := hmu hN6
      unfold cycR
      rw [if_neg hN6, decide_eq_true (show kk N ≤ 65536 by rw [hkk]; omega)]
      conv => whnf
      have e1 : rS ⟨p.lk, p.leak, p.bias, p.thr, p.rk, p.reset, p.floor, p.rest⟩ ⟨(sq p s x N).v, (sq p s x N).rest⟩ x = sq p s x (N + 1) := (hst N).1
      have e2 : rB ⟨p.lk, p.leak, p.bias, p.thr, p.rk, p.reset, p.floor, p.rest⟩ ⟨(sq p s x N).v, (sq p s x N).rest⟩ x = stepB p (sq p s x N) x := (hst N).2
      have hkw : IntKind.i64.wrap (kk N - 1) = ((N : Nat) : Int) := by
        rw [hkk]
        exact (W_id (by omega) (by omega)).trans (by omega)
      have hcl := cnt_le p s x 0 N
      have hcs : cnt p s x 0 (N + 1) = cnt p s x 0 N + (if stepB p (sq p s x N) x then 1 else 0) := by rw [cnt, Nat.zero_add]
      rw [hkw, e1, e2]
      refine ⟨by omega, ?_⟩
      conv => whnf
      rw [opF_load_at rfl rfl rfl rfl (cnts_at p s x (by omega))]
      conv => whnf
      cases hf : stepB p (sq p s x N) x
      · rw [hf] at hcs
        conv => whnf
        refine Run.mapLookup (j := 2) (ob := .map (ents p s x N) (N + 1)) (ks := (sq p s x (N + 1)).sv) rfl rfl rfl rfl rfl rfl rfl (by simp) (.tup [ii (mu : Int), .v (.bool true)]) ⟨trivial, trivial, trivial⟩ (fun ρ w1 h1 => lookup_some (t := sq p s x (N + 1)) h1 (ents_some hm1 hm2 hm3 w1)) ?_
        refine Run.of_wpK (hc _ _ _ _ Try.func36) 1000 _ ?_
        conv => whnf
        refine Run.draw (hc _ _ _ _ Try.func36) 12 ?_
        rw [show upto 0 12 = upto 0 8 ++ upto 8 4 from rfl]
        simp only [drawK_app]
        conv => whnf
        refine ⟨by omega, ?_⟩
        conv => whnf
        rw [opF_load_at rfl rfl rfl rfl (cnts_at p s x (i := N) (j := mu) (by omega))]
        conv => whnf
        refine ⟨by kernel_rfl, ?_⟩
        refine Run.of_wpK (hc _ _ _ _ Try.func36) 1000 _ ?_
        conv => whnf
        have hca := cnt_add p s x mu (N + 1 - mu)
        rw [show mu + (N + 1 - mu) = N + 1 by omega] at hca
        have hcm := cnt_le p s x mu (N + 1 - mu)
        have hcz := cnt_le p s x 0 mu
        have g1 : IntKind.i64.wrap (kk N - (mu : Int)) = ((N + 1 - mu : Nat) : Int) := by
          rw [hkk]
          exact (W_id (by omega) (by omega)).trans (by omega)
        have g0 : (cnt p s x 0 N : Int) = (cnt p s x 0 (N + 1) : Int) := by rw [hcs]; simp
        have g2 : IntKind.i64.wrap ((cnt p s x 0 N : Int) - (cnt p s x 0 mu : Int)) = (cnt p s x mu (N + 1 - mu) : Int) := by
          rw [g0]
          exact (W_id (by omega) (by omega)).trans (by omega)
        rw [← g1, ← g2]
        exact ⟨fun ρ w' hW _ => ⟨rfl, (hW.narrow (hwid hb)).toExt⟩⟩
      · rw [hf] at hcs
        conv => whnf
        refine Run.mapLookup (j := 2) (ob := .map (ents p s x N) (N + 1)) (ks := (sq p s x (N + 1)).sv) rfl rfl rfl rfl rfl rfl rfl (by simp) (.tup [ii (mu : Int), .v (.bool true)]) ⟨trivial, trivial, trivial⟩ (fun ρ w1 h1 => lookup_some (t := sq p s x (N + 1)) h1 (ents_some hm1 hm2 hm3 w1)) ?_
        refine Run.of_wpK (hc _ _ _ _ Try.func36) 1000 _ ?_
        conv => whnf
        refine Run.draw (hc _ _ _ _ Try.func36) 12 ?_
        rw [show upto 0 12 = upto 0 8 ++ upto 8 4 from rfl]
        simp only [drawK_app]
        conv => whnf
        refine ⟨by omega, ?_⟩
        conv => whnf
        rw [opF_load_at rfl rfl rfl rfl (cnts_at p s x (i := N) (j := mu) (by omega))]
        conv => whnf
        refine ⟨by kernel_rfl, ?_⟩
        refine Run.of_wpK (hc _ _ _ _ Try.func36) 1000 _ ?_
        conv => whnf
        have hca := cnt_add p s x mu (N + 1 - mu)
        rw [show mu + (N + 1 - mu) = N + 1 by omega] at hca
        have hcm := cnt_le p s x mu (N + 1 - mu)
        have hcz := cnt_le p s x 0 mu
        have g1 : IntKind.i64.wrap (kk N - (mu : Int)) = ((N + 1 - mu : Nat) : Int) := by
          rw [hkk]
          exact (W_id (by omega) (by omega)).trans (by omega)
        have g0 : IntKind.i64.wrap ((cnt p s x 0 N : Int) + 1) = (cnt p s x 0 (N + 1) : Int) := by rw [hcs, wrap_succ (by omega)]; simp
        have g2 : IntKind.i64.wrap (IntKind.i64.wrap ((cnt p s x 0 N : Int) + 1) - (cnt p s x 0 mu : Int)) = (cnt p s x mu (N + 1 - mu) : Int) := by
          rw [g0]
          exact (W_id (by omega) (by omega)).trans (by omega)
        rw [← g1, ← g2]
        exact ⟨fun ρ w' hW _ => ⟨rfl, (hW.narrow (hwid hb)).toExt⟩⟩

end Go.Proofs.Ytoipnojibkjjnaa
