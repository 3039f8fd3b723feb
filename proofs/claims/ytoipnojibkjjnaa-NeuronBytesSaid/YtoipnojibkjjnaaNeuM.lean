/-
  Walks of the functions of package neuron (part M): 'Pack': what it computes.
  For every neuron; the world only gets new blocks.
-/
import Derived.Test.YtoipnojibkjjnaaPlainD
import Derived.Test.YtoipnojibkjjnaaSxU
namespace Go.Proofs.Ytoipnojibkjjnaa
open Go.Sx
set_option maxRecDepth 100000

def U8 (n : Int) : Int := IntKind.u8.wrap n
def three3 (n : Int) : List Int := [U8 (n.fdiv 65536), U8 (n.fdiv 256), U8 n]
def five (p : Prm) : List Int := [p.leak, p.bias, p.thr, p.reset, p.floor]
/-- The bytes behind i numbers. -/
def pkB (p : Prm) : Nat → List Int
  | 0 => [U8 (W (p.lk + W (4 * p.rk)))]
  | i + 1 => pkB p i ++ three3 ((five p).getD i 0)
theorem pkB_length (p : Prm) : ∀ i, (pkB p i).length = 1 + 3 * i
  | 0 => rfl
  | i + 1 => by rw [pkB, List.length_append, pkB_length p i]; simp [three3]; omega
def pk (p : Prm) : List Int := pkB p 5 ++ [U8 p.rest]
theorem scs_u (S : Nat → Prop) : ∀ (l : List Int), SV.scs S (l.map fun x => .v (.int .u8 x))
  | [] => trivial
  | _ :: l => ⟨trivial, scs_u S l⟩
theorem rens_u (r : Nat → Nat) : ∀ (l : List Int), SV.rens r (l.map fun x => .v (.int .u8 x)) = l.map fun x => .v (.int .u8 x)
  | [] => rfl
  | x :: l => by simp only [List.map_cons, SV.rens, rens_u r l]; rfl
theorem concs_u (ρ : Env) : ∀ (l : List Int), SV.concs ρ (l.map fun x => .v (.int .u8 x)) = l.map fun x => .int .u8 x
  | [] => rfl
  | x :: l => by simp only [List.map_cons, SV.concs, concs_u ρ l]; rfl
theorem get_rowK {l : List Int} {j : Nat} (h : j < l.length) : Sx.get (l.map fun x => SV.v (.int .i64 x)) (0 + idx (j : Int) 1) = some (.v (.int .i64 l[j])) := by
  show Sx.get _ (0 + ((j : Int)).toNat) = _
  rw [Nat.zero_add, Int.toNat_natCast, get_eq, List.getElem?_map, List.getElem?_eq_getElem h]; rfl
theorem opF_load_cells {tab : Tab} {pf : PF} {T : Tm} {M : Mem} {n : Nat} {t : TypeId} {x : Operand} {ti : TI} {i off : Nat} {te : TypeId} {cs : List SV} {c : SV} (ht : Sx.look tab t = some ti) (hx : ev T x = some (.ptr i off)) (hM : M i = some (.cells cs te)) (hag : ti.sh.isAgg = false) (hg : Sx.get cs off = some c) :
    opF tab pf T M n (.load t x) = some (.val none c) := by
  simp only [opF, opLoad, ht, hx, hM, hag, SObj.list, hg]

/-- A call has come to these bytes and this error. -/
def BytesPost (ns : List Int) (err : Int) (w : World) (e : Ending) (w' : World) : Prop :=
  ∃ l, e = .returned (.tuple #[l, .int .i64 err]) ∧ Ext w w' ∧ w'.ownsRow w.heap.size 5 1 l ns.length (ns.map fun x => .int .u8 x)
def packR (p : Prm) : List Int := if chk p = 0 then pk p else []

theorem Pack_run (p : Prm) (w : World) : Calls Try.prog 31 #[p.sv.conc env0] w (BytesPost (packR p) (chk p) w) := by
  obtain ⟨ck, hck⟩ : ∃ ck : Prm → Int, chk = ck := ⟨chk, rfl⟩
  have hpf : PF.oks Try.prog [(24, FP fun p => .int .i64 (ck p))] := by rw [← hck]; exact ⟨check_pure, trivial⟩
  have hc : ∀ f fn cuts L, Try.prog.funcs[f]? = some fn → Cx.ok ⟨Try.prog, tab, [(24, FP fun p => .int .i64 (ck p))], f, fn, cuts, w, L, none⟩ := fun f fn cuts L h => ⟨tab_ok, hpf, h, mixed, fun _ h => by cases h⟩
  unfold packR
  rw [hck]
  refine Run.start0 (tab := tab) (pf := [(24, FP fun p => .int .i64 (ck p))]) (cuts := []) mixed tab_ok hpf Try.func31 rfl [p.sv] 1000 (by simp [SV.scs, SV.sc, Prm.sv, Prm.cells]) rfl ?_
  conv => whnf
  cases hv : ck ⟨p.lk, p.leak, p.bias, p.thr, p.rk, p.reset, p.floor, p.rest⟩ != 0
  · have h0 : ck p = 0 := by simpa using hv
    rw [if_pos h0, h0]
    conv => whnf
    refine Run.makeRoom (hc _ _ _ _ Try.func31) rfl rfl rfl rfl rfl rfl (by decide) (by decide) rfl rfl rfl rfl (by decide) ?_
    refine Run.of_wpK (hc _ _ _ _ Try.func31) 1000 _ ?_
    conv => whnf
    refine Run.append (hc _ _ _ _ Try.func31) rfl rfl rfl rfl rfl rfl rfl rfl rfl rfl rfl rfl rfl rfl rfl (by omega) ⟨by omega, by omega⟩ [(0, _), (2, _)] (AllP.mem ⟨⟨rfl, by omega⟩, ⟨rfl, by omega⟩, trivial⟩) ?_
    refine Run.of_wpK (hc _ _ _ _ Try.func31) 1000 _ ?_
    conv => whnf
    refine Run.trim (T' := [(1, .ptr 0 0), (5, .ptr 2 0), (6, .fn 49 [.ptr 2 0]), (36, .slc 5 0 5 5), (37, ii 5), (38, ii 0)]) (M' := [(0, .cells p.cells 23), (2, .cells [.opq 4] 47), (4, .row 1 (pkB p 0).length ((pkB p 0).map fun x => .v (.int .u8 x)) 5), (5, .cells ((five p).map fun x => .v (.int .i64 x)) 3)]) 6 ⟨⟨rfl, by simp [SV.sc]⟩, ⟨rfl, by simp [SV.sc]⟩, ⟨rfl, by simp [SV.sc, SV.scs]⟩, ⟨rfl, by simp [SV.sc]⟩, ⟨rfl, trivial⟩, ⟨rfl, trivial⟩, trivial⟩ ⟨⟨rfl, by omega, by simp [SObj.sc, Prm.cells, SV.scs, SV.sc]⟩, ⟨rfl, by omega, by simp [SObj.sc, SV.scs, SV.sc]⟩, ⟨rfl, by omega, scs_u _ _⟩, ⟨rfl, by omega, scs_i _ _⟩, trivial⟩ (fun p hp => by cases hp) ?_
    refine Run.upTo (T := fun i => [(1, .ptr 0 0), (5, .ptr 2 0), (6, .fn 49 [.ptr 2 0]), (36, .slc 5 0 5 5), (37, ii 5), (38, ii (i : Int))]) (M := fun i => [(0, .cells p.cells 23), (2, .cells [.opq 4] 47), (4, .row 1 (pkB p i).length ((pkB p i).map fun x => .v (.int .u8 x)) 5), (5, .cells ((five p).map fun x => .v (.int .i64 x)) 3)]) 5 ?_ ?_
    · intro i hi ih
      have hi5 : i < (five p).length := hi
      have hfi : (five p).getD i 0 = (five p)[i] := by rw [List.getD_eq_getElem?_getD, List.getElem?_eq_getElem hi5]; rfl
      refine Run.of_wpK (hc _ _ _ _ Try.func31) 1000 _ ?_
      conv => whnf
      split
      · conv => whnf
        refine ⟨⟨by omega, by omega⟩, ?_⟩
        conv => whnf
        rw [opF_load_cells rfl rfl rfl rfl (get_rowK hi5)]
        conv => whnf
        refine Run.inlineP (T0 := [(1, .ptr 0 0), (5, .ptr 2 0), (6, .fn 49 [.ptr 2 0]), (36, .slc 5 0 5 5), (37, ii 5), (38, ii (i : Int))]) rfl rfl rfl rfl rfl rfl rfl (ent _ _ Try.func49 (by kernel_rfl) rfl) Try.func49 rfl rfl [] [0, 2, 5] [(0, .cells p.cells 23), (2, .cells [.opq 4] 47), (4, .row 1 (pkB p (i + 1)).length ((pkB p (i + 1)).map fun x => .v (.int .u8 x)) 5), (5, .cells ((five p).map fun x => .v (.int .i64 x)) 3)] 6 (.tuple #[]) ?_ ?_ (fun q hq => by cases hq) ?_ ?_ ?_
        · exact AllP.mem (l := [0, 2, 5]) ⟨⟨by omega, _, _, rfl⟩, ⟨by omega, _, _, rfl⟩, ⟨by omega, _, _, rfl⟩, trivial⟩
        · exact AllP.mem (l := [0, 2, 5]) ⟨⟨by omega, _, _, rfl⟩, ⟨by omega, _, _, rfl⟩, ⟨by omega, _, _, rfl⟩, trivial⟩
        · exact AllP.mem ⟨⟨rfl, by simp [SV.pin]⟩, ⟨rfl, by simp [SV.pin]⟩, ⟨rfl, by simp [SV.pin, SV.pins]⟩, ⟨rfl, by simp [SV.pin]⟩, ⟨rfl, trivial⟩, ⟨rfl, trivial⟩, trivial⟩
        · intro L' hL' _
          have hpl := pkB_length p i
          refine Run.of_wpK (hc _ _ _ _ Try.func49) 1000 _ ?_
          conv => whnf
          refine ⟨by decide, ?_⟩
          conv => whnf
          refine ⟨by decide, ?_⟩
          conv => whnf
          refine Run.append (hc _ _ _ _ Try.func49) rfl rfl rfl rfl rfl rfl rfl rfl rfl rfl rfl rfl rfl rfl rfl (by omega) ⟨by omega, by omega⟩ [(0, _), (2, _), (5, _)] (AllP.mem ⟨⟨rfl, by omega⟩, ⟨rfl, by omega⟩, ⟨rfl, by omega⟩, trivial⟩) ?_
          refine Run.of_wpK (hc _ _ _ _ Try.func49) 1000 _ ?_
          conv => whnf
          refine ⟨fun ρ w' hW _ => ⟨rfl, ρ.ren (rs 4 7), ?_⟩⟩
          refine hW.less ⟨AllP.mem ⟨⟨rfl, by omega, by simp [SObj.sc, Prm.cells, SV.scs, SV.sc]⟩, ⟨rfl, by omega, by simp [SObj.sc, SV.scs, SV.sc]⟩, ⟨?_, by omega, scs_u _ _⟩, ⟨by simp only [SObj.ren, rens_i]; rfl, by omega, scs_i _ _⟩, trivial⟩, fun x hx y hy h => ?_, fun q hq => ?_⟩
          · refine Eq.trans (b := some (SObj.row 1 ((pkB p i).length + 3) ((pkB p i).map (fun x => .v (.int .u8 x)) ++ ((three3 (five p)[i]).map fun x => .v (.int .u8 x))) 5)) rfl ?_
            simp only [SObj.ren, rens_u]
            simp only [pkB, List.map_append, List.length_append, hfi]
            rfl
          · have b1 : ∀ z ∈ ([(0, .cells p.cells 23), (2, .cells [.opq 4] 47), (4, .row 1 (pkB p (i + 1)).length ((pkB p (i + 1)).map fun x => .v (.int .u8 x)) 5), (5, .cells ((five p).map fun x => .v (.int .i64 x)) 3)] : List (Nat × SObj)), z.1 < 6 := AllP.mem ⟨by omega, by omega, by omega, by omega, trivial⟩
            exact rs_inj (n := 6) (by omega) (b1 x hx) (b1 y hy) h
          · have := hL' q hq
            simp at this
            unfold rs
            constructor
            · rw [if_neg (by omega)]
            · omega
        · refine Run.of_wpK (hc _ _ _ _ Try.func31) 1000 _ ?_
          conv => whnf
          rw [wrap_succ (i := i) (by omega)]
          exact Run.trim (T' := [(1, .ptr 0 0), (5, .ptr 2 0), (6, .fn 49 [.ptr 2 0]), (36, .slc 5 0 5 5), (37, ii 5), (38, ii ((i + 1 : Nat) : Int))]) (M' := [(0, .cells p.cells 23), (2, .cells [.opq 4] 47), (4, .row 1 (pkB p (i + 1)).length ((pkB p (i + 1)).map fun x => .v (.int .u8 x)) 5), (5, .cells ((five p).map fun x => .v (.int .i64 x)) 3)]) 6 ⟨⟨rfl, by simp [SV.sc]⟩, ⟨rfl, by simp [SV.sc]⟩, ⟨rfl, by simp [SV.sc, SV.scs]⟩, ⟨rfl, by simp [SV.sc]⟩, ⟨rfl, trivial⟩, ⟨rfl, trivial⟩, trivial⟩ ⟨⟨rfl, by omega, by simp [SObj.sc, Prm.cells, SV.scs, SV.sc]⟩, ⟨rfl, by omega, by simp [SObj.sc, SV.scs, SV.sc]⟩, ⟨rfl, by omega, scs_u _ _⟩, ⟨rfl, by omega, scs_i _ _⟩, trivial⟩ (fun p hp => by cases hp) ih
      · rename_i hn; have := of_decide_eq_false hn; omega
    · have hpl := pkB_length p 5
      refine Run.of_wpK (hc _ _ _ _ Try.func31) 1000 _ ?_
      conv => whnf
      refine Run.append (hc _ _ _ _ Try.func31) rfl rfl rfl rfl rfl rfl rfl rfl rfl rfl rfl rfl rfl rfl rfl (by omega) ⟨by omega, by omega⟩ [(0, _), (2, _)] (AllP.mem ⟨⟨rfl, by omega⟩, ⟨rfl, by omega⟩, trivial⟩) ?_
      refine Run.of_wpK (hc _ _ _ _ Try.func31) 1000 _ ?_
      conv => whnf
      refine ⟨fun ρ w' hW _ => ⟨(SV.opq 7).conc ρ, rfl, hW.toExt, ?_⟩⟩
      have := hW.ownsNew (i := 7) (e := 1) rfl Nat.one_pos
      have e : SV.concs ρ ((pkB p 5).map (fun x => .v (.int .u8 x)) ++ [.v (.int .u8 (U8 p.rest))]) = (pk p).map fun x => .int .u8 x := by
        rw [concs_append, concs_u, pk, List.map_append]; rfl
      have e2 : (pk p).length = (pkB p 5).length + 1 := by rw [pk, List.length_append]; rfl
      rw [e2, ← e]
      exact this
  · have h0 : ¬ ck p = 0 := by simpa using hv
    rw [if_neg h0]
    conv => whnf
    exact ⟨fun ρ w' hW _ => ⟨.slice none 0 0, rfl, hW.toExt, World.ownsRow_nil _ _ _ _⟩⟩
end Go.Proofs.Ytoipnojibkjjnaa
