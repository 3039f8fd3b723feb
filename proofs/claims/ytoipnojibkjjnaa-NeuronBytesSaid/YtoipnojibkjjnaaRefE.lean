/-
  Walks of the functions of package ganglionref01 (part E): 'three', 'Pack': what they compute.
  For every neuron; the world only gets new blocks.
-/
import Derived.Test.YtoipnojibkjjnaaPlainE
import Derived.Test.YtoipnojibkjjnaaRefD
import Derived.Test.YtoipnojibkjjnaaSxV
namespace Go.Proofs.Ytoipnojibkjjnaa
open Go.Sx
set_option maxRecDepth 100000

/-- A call has come to a new block of bytes. -/
def SlcPost (ns : List Int) (w : World) (e : Ending) (w' : World) : Prop :=
  ∃ b, e = .returned (.slice (some ⟨b, 0, none⟩) ns.length ns.length) ∧ Ext w w' ∧ w.heap.size ≤ b ∧ w'.heap[b]? = some (.cells (ns.map fun x => .int .u8 x).toArray 5 (0, 0))
def thR (n : Int) : List Int := [U8 (IntKind.i64.wrap (((W (n + 16777216)).tmod 16777216).tdiv 65536)), U8 ((IntKind.i64.wrap (((W (n + 16777216)).tmod 16777216).tdiv 256)).tmod 256), U8 (((W (n + 16777216)).tmod 16777216).tmod 256)]
theorem thR_eq {n : Int} (h : -1048576 ≤ n ∧ n ≤ 1048576) : thR n = three3 n := by
  have hw : W (n + 16777216) = n + 16777216 := W_id (by omega) (by omega)
  have e1 : (n + 16777216).tmod 16777216 = n % 16777216 := by rw [Int.tmod_eq_emod_of_nonneg (by omega)]; omega
  have e2 : ∀ m : Int, 0 ≤ m → m < 16777216 → IntKind.i64.wrap (m.tdiv 65536) = m / 65536 := fun m h1 h2 => by
    rw [Int.tdiv_eq_ediv_of_nonneg h1]; exact W_id (by omega) (by omega)
  have e3 : ∀ m : Int, 0 ≤ m → m < 16777216 → IntKind.i64.wrap (m.tdiv 256) = m / 256 := fun m h1 h2 => by
    rw [Int.tdiv_eq_ediv_of_nonneg h1]; exact W_id (by omega) (by omega)
  unfold thR three3
  rw [hw, e1, e2 _ (by omega) (by omega), e3 _ (by omega) (by omega), Int.tmod_eq_emod_of_nonneg (by omega), Int.tmod_eq_emod_of_nonneg (by omega)]
  simp only [U8_eq, fdiv_pos n (show (0 : Int) ≤ 65536 by decide), fdiv_pos n (show (0 : Int) ≤ 256 by decide)]
  rw [show n % 16777216 / 65536 % 256 = n / 65536 % 256 by omega, show n % 16777216 / 256 % 256 % 256 = n / 256 % 256 by omega, show n % 16777216 % 256 % 256 = n % 256 by omega]
theorem three_run (n : Int) (w : World) : Calls Try.prog 50 #[.int .i64 n] w (SlcPost (thR n) w) := by
  have hc : ∀ (q : Cx), q = ⟨Try.prog, tab, [], 50, Try.f50, [], w, [], none⟩ → q.ok := by
    rintro _ rfl
    exact ⟨tab_ok, trivial, Try.func50, mixed, fun _ h => by cases h⟩
  refine Run.start0 (tab := tab) (pf := []) (cuts := []) mixed tab_ok trivial Try.func50 rfl [ii n] 1000 (by simp [SV.scs, SV.sc]) rfl ?_
  conv => whnf
  refine ⟨by decide, ?_⟩
  conv => whnf
  refine ⟨by decide, ?_⟩
  conv => whnf
  refine ⟨by decide, ?_⟩
  conv => whnf
  refine ⟨by decide, ?_⟩
  conv => whnf
  refine ⟨by decide, ?_⟩
  conv => whnf
  refine ⟨fun ρ w' hW _ => ?_⟩
  obtain ⟨_, _, h0, hc⟩ := hW.mem 0 _ rfl
  refine ⟨ρ.s 0, ?_, hW.toExt, ?_, hc⟩
  · simp only [SV.conc, h0]; rfl
  · rcases hW.new 0 _ rfl trivial with ⟨p, hp, _⟩ | h
    · cases hp
    · exact h
section
variable {c : Cx} {T : List (Nat × SV)} {M : List (Nat × SObj)} {n : Nat} {D : List Deferred} {ops : Array Oper} {i : Nat} {r : List Nat} {k : List Item} {R : Ending → World → Prop} {o : Oper} {f : Operand} {args : Array Operand} {ts : Array TypeId} {fv : SV}
/-- A call that returns a new block of bytes. -/
theorem Run.newBytes (ns : List Int) {g : FuncId} {caps vs : List SV} (hP : c.P = Try.prog) (hcall : ∀ ρ w, WI c.w0 c.L ρ (Sx.look M) (· < n) w → Calls Try.prog g (SV.concs ρ (vs ++ caps)).toArray w (SlcPost ns w)) (hg : Enters Try.prog g)
    (ho : get ops.toList i = some o) (hop : o.op = .call { callee := .value f, args := args, argTypes := ts }) (hw : wantS ops.toList (Sx.look T) o = some true) (hd : okD c.fn.ntmps o.dst = true)
    (hf : ev (Sx.look T) f = some fv) (hfv : calleeOf fv = some (g, caps)) (hvs : evs (Sx.look T) args.toList = some vs)
    (h : Run c ⟨putS T o.dst (.slc n 0 ns.length ns.length), (n, .cells (ns.map fun x => .v (.int .u8 x)) 5) :: M, n + 1, D, .inRegion ops r :: k⟩ R) : Run c ⟨T, M, n, D, .inRegion ops (i :: r) :: k⟩ R := by
  refine Run.callG ho hop hw hd hf hfv hvs (by rw [hP]; exact hg) (fun v M' n' => v = .slc n 0 ns.length ns.length ∧ M' = (n, .cells (ns.map fun x => .v (.int .u8 x)) 5) :: M ∧ n' = n + 1) (fun ρ w _ hW => ?_) (fun v M' n' hp => ?_)
  · rw [hP]
    refine (hcall ρ w hW).mono fun e w' ⟨b, he, hx, hb, hc⟩ => ?_
    obtain ⟨h1, h2⟩ := hW.adopt hx (i := n) (b := b) (o := .cells (ns.map fun x => .v (.int .u8 x)) 5) (Nat.lt_irrefl n) hb (scs_u _ _) (fun ρ' _ hs h0 => ⟨h0, by rw [hs, concs_u]; exact hc⟩)
    refine ⟨_, .slc n 0 ns.length ns.length, _, _, ?_, h2, Nat.le_succ n, Nat.lt_succ_self n, ?_, rfl, rfl, rfl⟩
    · rw [he]
      simp [SV.conc, Env.bind]
    · rw [look_upd]
      exact h1.mono fun j hj => by omega
  · obtain ⟨rfl, rfl, rfl⟩ := hp; exact h
end
theorem five_get {p : Prm} (h : chk p = 0) {i : Nat} (hi : i < 5) : -1048576 ≤ (five p).getD i 0 ∧ (five p).getD i 0 ≤ 1048576 := by
  have g := chk_good.1 h
  have g1 := g.lk; have g2 := g.bias; have g3 := g.thr; have g4 := g.reset; have g5 := g.floor
  match i, hi with
  | 0, _ => show -1048576 ≤ p.leak ∧ p.leak ≤ 1048576; omega
  | 1, _ => exact g2
  | 2, _ => show -1048576 ≤ p.thr ∧ p.thr ≤ 1048576; omega
  | 3, _ => show -1048576 ≤ p.reset ∧ p.reset ≤ 1048576; omega
  | 4, _ => show -1048576 ≤ p.floor ∧ p.floor ≤ 1048576; omega
theorem rPack_run (p : Prm) (w : World) : Calls Try.prog 32 #[p.sv.conc env0] w (BytesPost (packR p) (chk p) w) := by
  obtain ⟨ck, hck⟩ : ∃ ck : Prm → Int, chk = ck := ⟨chk, rfl⟩
  have hpf : PF.oks Try.prog [(25, FP fun p => .int .i64 (ck p))] := by rw [← hck]; exact ⟨rcheck_pure, trivial⟩
  have hc : ∀ f fn cuts L, Try.prog.funcs[f]? = some fn → Cx.ok ⟨Try.prog, tab, [(25, FP fun p => .int .i64 (ck p))], f, fn, cuts, w, L, none⟩ := fun f fn cuts L h => ⟨tab_ok, hpf, h, mixed, fun _ h => by cases h⟩
  unfold packR
  refine Run.start0 (tab := tab) (pf := [(25, FP fun p => .int .i64 (ck p))]) (cuts := []) mixed tab_ok hpf Try.func32 rfl [p.sv] 1000 (by simp [SV.scs, SV.sc, Prm.sv, Prm.cells]) rfl ?_
  conv => whnf
  cases hv : ck ⟨p.lk, p.leak, p.bias, p.thr, p.rk, p.reset, p.floor, p.rest⟩ != 0
  · have hk0 : ck p = 0 := by simpa using hv
    have h0 : chk p = 0 := by rw [hck]; exact hk0
    rw [if_pos h0, h0]
    conv => whnf
    refine Run.slcRow (T' := [(1, .ptr 0 0), (5, .opq 3), (6, .slc 2 0 5 5), (7, ii 0)]) (M' := [(0, .cells p.cells 23), (2, .cells ((five p).map fun x => .v (.int .i64 x)) 3)]) 1 _ _ rfl (by simp) (AllP.mem ⟨.inl rfl, .inr ⟨rfl, rfl⟩, .inl rfl, .inl rfl, trivial⟩) (AllP.mem ⟨⟨rfl, by omega⟩, ⟨rfl, by omega⟩, trivial⟩) ?_
    refine Run.trim (T' := [(1, .ptr 0 0), (5, .opq 3), (6, .slc 2 0 5 5), (7, ii ((0 : Nat) : Int))]) (M' := [(0, .cells p.cells 23), (2, .cells ((five p).map fun x => .v (.int .i64 x)) 3), (3, .row 1 (pkB p 0).length ((pkB p 0).map fun x => .v (.int .u8 x)) 5)]) 4 ⟨⟨rfl, by simp [SV.sc]⟩, ⟨rfl, by simp [SV.sc]⟩, ⟨rfl, by simp [SV.sc]⟩, ⟨rfl, trivial⟩, trivial⟩ ⟨⟨rfl, by omega, by simp [SObj.sc, Prm.cells, SV.scs, SV.sc]⟩, ⟨rfl, by omega, scs_i _ _⟩, ⟨rfl, by omega, scs_u _ _⟩, trivial⟩ (fun p hp => by cases hp) ?_
    refine Run.upTo (T := fun i => [(1, .ptr 0 0), (5, .opq 3), (6, .slc 2 0 5 5), (7, ii (i : Int))]) (M := fun i => [(0, .cells p.cells 23), (2, .cells ((five p).map fun x => .v (.int .i64 x)) 3), (3, .row 1 (pkB p i).length ((pkB p i).map fun x => .v (.int .u8 x)) 5)]) 5 ?_ ?_
    · intro i hi ih
      have hi5 : i < (five p).length := hi
      have hpl := pkB_length p i
      have hfi : (five p).getD i 0 = (five p)[i] := by rw [List.getD_eq_getElem?_getD, List.getElem?_eq_getElem hi5]; rfl
      have hth : thR (five p)[i] = three3 ((five p).getD i 0) := by rw [← hfi]; exact thR_eq (five_get h0 hi)
      refine Run.of_wpK (hc _ _ _ _ Try.func32) 1000 _ ?_
      conv => whnf
      split
      · conv => whnf
        refine ⟨⟨by omega, by omega⟩, ?_⟩
        conv => whnf
        rw [opF_load_cells rfl rfl rfl rfl (get_rowK hi5)]
        conv => whnf
        refine Run.newBytes (vs := [ii (five p)[i]]) (caps := []) (thR (five p)[i]) rfl (fun ρ w1 hW => three_run (five p)[i] w1) (ent _ _ Try.func50 (by kernel_rfl) rfl) rfl rfl rfl rfl rfl rfl rfl ?_
        refine Run.append (hc _ _ _ _ Try.func32) rfl rfl rfl rfl rfl rfl rfl rfl rfl rfl rfl rfl rfl rfl rfl (by omega) ⟨by simp only [thR, List.length_cons, List.length_nil]; omega, by simp only [thR, List.length_cons, List.length_nil]; omega⟩ [(0, _), (2, _)] (AllP.mem ⟨⟨rfl, by omega⟩, ⟨rfl, by omega⟩, trivial⟩) ?_
        refine Run.of_wpK (hc _ _ _ _ Try.func32) 1000 _ ?_
        conv => whnf
        rw [wrap_succ (i := i) (by omega)]
        refine Run.trimR 3 5 4 (by omega) (T' := [(1, .ptr 0 0), (5, .opq 3), (6, .slc 2 0 5 5), (7, ii ((i + 1 : Nat) : Int))]) (M' := [(0, .cells p.cells 23), (2, .cells ((five p).map fun x => .v (.int .i64 x)) 3), (3, .row 1 (pkB p (i + 1)).length ((pkB p (i + 1)).map fun x => .v (.int .u8 x)) 5)]) ?_ ?_ (fun q hq => by cases hq) ih
        · exact ⟨⟨rfl, by simp [SV.sc]⟩, ⟨rfl, by simp [SV.sc]⟩, ⟨rfl, by simp [SV.sc]⟩, ⟨rfl, trivial⟩, trivial⟩
        · refine ⟨⟨rfl, by omega, by simp [SObj.sc, Prm.cells, SV.scs, SV.sc]⟩, ⟨by simp only [SObj.ren, rens_i]; rfl, by omega, scs_i _ _⟩, ⟨?_, by omega, scs_u _ _⟩, trivial⟩
          refine Eq.trans (b := some (SObj.row 1 ((pkB p i).length + 3) ((pkB p i).map (fun x => .v (.int .u8 x)) ++ ((thR (five p)[i]).map fun x => .v (.int .u8 x))) 5)) rfl ?_
          simp only [SObj.ren, rens_u]
          simp only [pkB, List.map_append, List.length_append, hth]
          rfl
      · rename_i hn; have := of_decide_eq_false hn; omega
    · have hpl := pkB_length p 5
      refine Run.of_wpK (hc _ _ _ _ Try.func32) 1000 _ ?_
      conv => whnf
      refine Run.append (hc _ _ _ _ Try.func32) rfl rfl rfl rfl rfl rfl rfl rfl rfl rfl rfl rfl rfl rfl rfl (by omega) ⟨by omega, by omega⟩ [(0, _), (2, _)] (AllP.mem ⟨⟨rfl, by omega⟩, ⟨rfl, by omega⟩, trivial⟩) ?_
      refine Run.of_wpK (hc _ _ _ _ Try.func32) 1000 _ ?_
      conv => whnf
      refine ⟨fun ρ w' hW _ => ⟨(SV.opq 5).conc ρ, rfl, hW.toExt, ?_⟩⟩
      have := hW.ownsNew (i := 5) (e := 1) rfl Nat.one_pos
      have e : SV.concs ρ ((pkB p 5).map (fun x => .v (.int .u8 x)) ++ [.v (.int .u8 (U8 p.rest))]) = (pk p).map fun x => .int .u8 x := by
        rw [concs_append, concs_u, pk, List.map_append]; rfl
      have e2 : (pk p).length = (pkB p 5).length + 1 := by rw [pk, List.length_append]; rfl
      rw [e2, ← e]
      exact this
  · have h0 : ¬ chk p = 0 := by rw [hck]; simpa using hv
    rw [if_neg h0]
    conv => whnf
    rw [hck]
    exact ⟨fun ρ w' hW _ => ⟨.slice none 0 0, rfl, hW.toExt, World.ownsRow_nil _ _ _ _⟩⟩
end Go.Proofs.Ytoipnojibkjjnaa
