/-
  Walks of the functions of package neuron (part G): 'Run' and 'Silent': what they compute.
  For every neuron, state and list of inputs; the world only gets new blocks.
-/
import Derived.Test.YtoipnojibkjjnaaNeuF
namespace Go.Proofs.Ytoipnojibkjjnaa
open Go.Sx
set_option maxRecDepth 100000

section
variable {c : Cx} {T : List (Nat × SV)} {M : List (Nat × SObj)} {n : Nat} {D : List Deferred} {ops : Array Oper} {i : Nat} {r : List Nat} {k : List Item} {R : Ending → World → Prop} {o : Oper} {f : Operand} {args : Array Operand} {ts : Array TypeId} {fv : SV}
theorem Run.spikes (p : Prm) (s : Ste) (j : Nat) (hk : p.lk = 0 ∨ p.lk = 1 ∨ p.lk = 2) (hj : Sx.look M j = some (.cells (cellOf p s) 63)) (hP : c.P = Try.prog) (ho : get ops.toList i = some o) (hop : o.op = .call { callee := .value f, args := args, argTypes := ts }) (hw : wantS ops.toList (Sx.look T) o = some true) (hd : okD c.fn.ntmps o.dst = true)
    (hf : ev (Sx.look T) f = some fv) (hfv : calleeOf fv = some (42, [])) {g : FuncId} {caps : List SV} (hvs : evs (Sx.look T) args.toList = some [.ptr j 0, .fn g caps]) (hg : Enters Try.prog g) (xs : List Int) (ys : List (List Value))
    (hys : ys.length = xs.length ∧ ∀ (i : Nat) y, ys[i]? = some y → ∃ x, xs[i]? = some x ∧ y = [.int .i64 (i : Int), .int .i64 x]) (hxs : xs.length ≤ 10000)
    (hit : ∀ ρ w, WI c.w0 c.L ρ (Sx.look M) (· < n) w → ∃ B, (∀ k ∈ B, k < w.heap.size ∧ k ≠ ρ.s j) ∧ Iter Try.prog g (SV.concs ρ caps) B w ys)
    (h : Run c ⟨putS T o.dst (.opq n), (n, .row 1 (outs p s 0 xs).length ((outs p s 0 xs).map fun x => .v (.int .i64 x)) 3) :: (j, .cells (cellOf p (steps p s xs)) 63) :: M, n + 1, D, .inRegion ops r :: k⟩ R) : Run c ⟨T, M, n, D, .inRegion ops (i :: r) :: k⟩ R := by
  refine Run.callG ho hop hw hd hf hfv hvs (by rw [hP]; exact ent _ _ Try.func42 (by kernel_rfl) rfl) (fun v M' n' => v = .opq n ∧ M' = (n, .row 1 (outs p s 0 xs).length ((outs p s 0 xs).map fun x => .v (.int .i64 x)) 3) :: (j, .cells (cellOf p (steps p s xs)) 63) :: M ∧ n' = n + 1) (fun ρ w _ hW => ?_) (fun v M' n' hp => ?_)
  · rw [hP]
    obtain ⟨h1, h2, h3, h4⟩ := hW.mem j _ hj
    obtain ⟨B, hB, hI⟩ := hit ρ w hW
    have := spikes_run p s hk (ρ.s j) g (SV.concs ρ caps) B xs ys w h4 hg hys hxs hB hI
    have ha : (SV.concs ρ ([.ptr j 0, .fn g caps] ++ [])).toArray = #[.pointer (some ⟨ρ.s j, 0, none⟩), .func (.func g) #[] (SV.concs ρ caps).toArray] := by simp [SV.concs, SV.conc, h3]
    rw [ha]
    refine this.mono fun e w' ⟨v, he, hm, hc, hr⟩ => ?_
    rw [← concs_i ρ] at hr
    obtain ⟨q1, q2⟩ := hW.modRow hj trivial hm (o' := .cells (cellOf p (steps p s xs)) 63) (cellOf_sc _ _ _) ⟨h3, hc⟩ (j := n) (Nat.lt_irrefl n) hr (scs_i _ _)
    refine ⟨ρ.bindV n v, .opq n, _, _, by rw [conc_bindV hr]; exact he, q2, Nat.le_succ n, Nat.lt_succ_self n, ?_, rfl, rfl, rfl⟩
    rw [look_upd, look_upd]
    exact q1.mono fun q hq => by have hq : q < n ∨ q = n := hq; omega
  · obtain ⟨rfl, rfl, rfl⟩ := hp; exact h
end

/-! ### slices.All -/
theorem All_run (p : Option Addr) (l cap : Nat) (w : World) : Calls Try.prog 43 #[.slice p l cap] w fun e w' =>
    ∃ b, e = .returned (.func (.func 54) #[] #[.pointer (some ⟨b, 0, none⟩)]) ∧ Ext w w' ∧ w.heap.size ≤ b ∧ w'.heap[b]? = some (.cells #[.slice p l cap] 31 (0, 0)) := by
  refine Run.start0 (tab := tab) (pf := []) (cuts := []) mixed tab_ok trivial Try.func43 rfl [.v (.slice p l cap)] 1000 (by simp [SV.scs, SV.sc]) rfl ?_
  conv => whnf
  refine ⟨fun ρ w' hW _ => ?_⟩
  obtain ⟨_, _, ho, hh⟩ := hW.mem 0 _ rfl
  have hn := hW.new 0 _ rfl trivial
  refine ⟨ρ.s 0, ?_, hW.toExt, ?_, hh⟩
  · show Ending.returned (.func (.func _) #[] #[.pointer (some ⟨ρ.s 0, ρ.o 0 + 0, none⟩)]) = _
    rw [ho]
  · rcases hn with ⟨q, hq, _⟩ | hn
    · cases hq
    · exact hn

section
variable {c : Cx} {T : List (Nat × SV)} {M : List (Nat × SObj)} {n : Nat} {D : List Deferred} {ops : Array Oper} {i : Nat} {r : List Nat} {k : List Item} {R : Ending → World → Prop} {o : Oper} {f : Operand} {args : Array Operand} {ts : Array TypeId} {fv : SV}
theorem Run.all (p : Option Addr) (l cap : Nat) (hP : c.P = Try.prog) (ho : get ops.toList i = some o) (hop : o.op = .call { callee := .value f, args := args, argTypes := ts }) (hw : wantS ops.toList (Sx.look T) o = some true) (hd : okD c.fn.ntmps o.dst = true)
    (hf : ev (Sx.look T) f = some fv) (hfv : calleeOf fv = some (43, [])) (hvs : evs (Sx.look T) args.toList = some [.v (.slice p l cap)])
    (h : Run c ⟨putS T o.dst (.fn 54 [.ptr n 0]), (n, .cells [.v (.slice p l cap)] 31) :: M, n + 1, D, .inRegion ops r :: k⟩ R) : Run c ⟨T, M, n, D, .inRegion ops (i :: r) :: k⟩ R := by
  refine Run.callG ho hop hw hd hf hfv hvs (by rw [hP]; exact ent _ _ Try.func43 (by kernel_rfl) rfl) (fun v M' n' => v = .fn 54 [.ptr n 0] ∧ M' = (n, .cells [.v (.slice p l cap)] 31) :: M ∧ n' = n + 1) (fun ρ w _ hW => ?_) (fun v M' n' hp => ?_)
  · rw [hP]
    refine (All_run p l cap w).mono fun e w' ⟨b, he, hx, hb, hc⟩ => ?_
    obtain ⟨h1, h2⟩ := hW.adopt hx (i := n) (b := b) (o := .cells [.v (.slice p l cap)] 31) (Nat.lt_irrefl n) hb ⟨trivial, trivial⟩ (fun ρ' _ hs h0 => ⟨h0, by rw [hs]; exact hc⟩)
    refine ⟨_, _, _, _, ?_, h2, Nat.le_succ n, ?_, ?_, rfl, rfl, rfl⟩
    · rw [he]
      simp [SV.conc, SV.concs, Env.bind]
    · exact ⟨Nat.lt_succ_self n, trivial⟩
    · rw [look_upd]
      exact h1.mono fun j hj => by omega
  · obtain ⟨rfl, rfl, rfl⟩ := hp; exact h
end

theorem numbered_ok (xs : List Int) : (numbered xs).length = xs.length ∧ ∀ (i : Nat) y, (numbered xs)[i]? = some y → ∃ x, xs[i]? = some x ∧ y = [.int .i64 (i : Int), .int .i64 x] := by
  refine ⟨by simp [numbered], fun i y hy => ?_⟩
  rw [numbered, List.getElem?_mapIdx] at hy
  cases hx : xs[i]? with
  | none => rw [hx] at hy; cases hy
  | some x => rw [hx] at hy; exact ⟨x, rfl, (Option.some.inj hy).symm⟩
theorem silences_ok (n : Nat) : (silences n).length = (List.replicate n (0 : Int)).length ∧ ∀ (i : Nat) y, (silences n)[i]? = some y → ∃ x, (List.replicate n (0 : Int))[i]? = some x ∧ y = [.int .i64 (i : Int), .int .i64 x] := by
  refine ⟨by simp [silences], fun i y hy => ?_⟩
  rw [silences, List.getElem?_map] at hy
  rcases Nat.lt_or_ge i n with h | h
  · rw [List.getElem?_range h] at hy
    exact ⟨0, by simp [h], (Option.some.inj hy).symm⟩
  · rw [List.getElem?_eq_none (by simpa using h)] at hy; cases hy

/-! ### Run and Silent -/
/-- The ticks with spikes, the state, the error. -/
def runR (p : Prm) (s : Ste) (xs : List Int) : List Int × Ste × Int :=
  if vld p s = 0 then (if xs.length ≤ 10000 then (outs p s 0 xs, steps p s xs, 0) else ([], ⟨0, 0⟩, 9)) else ([], ⟨0, 0⟩, vld p s)
def silR (p : Prm) (s : Ste) (n : Int) : List Int × Ste × Int :=
  if vld p s = 0 then (if wi n 0 10000 then (outs p s 0 (List.replicate n.toNat 0), steps p s (List.replicate n.toNat 0), 0) else ([], ⟨0, 0⟩, 3)) else ([], ⟨0, 0⟩, vld p s)
/-- A call of 'Run' or 'Silent' has come to these results. -/
def RunPost (r : List Int × Ste × Int) (w : World) (e : Ending) (w' : World) : Prop :=
  ∃ l, e = .returned (.tuple #[l, .agg #[.int .i64 r.2.1.v, .int .i64 r.2.1.rest], .int .i64 r.2.2]) ∧ Ext w w' ∧ w'.ownsRow w.heap.size 3 1 l r.1.length (ints r.1)

theorem Run_run (p : Prm) (s : Ste) (v : Value) (xs : List Int) (w : World) (hr : RowAt w v (ints xs)) : Calls Try.prog 18 #[p.sv.conc env0, s.sv.conc env0, v] w (RunPost (runR p s xs) w) := by
  have hc : ∀ (q : Cx), q = ⟨Try.prog, tab, [], 18, Try.f18, cuts18, w, [], none⟩ → q.ok := by
    rintro _ rfl
    exact ⟨tab_ok, trivial, Try.func18, mixed, fun _ h => by cases h⟩
  obtain ⟨pp, cap, rfl⟩ := hr.len
  rw [ints_length] at *
  by_cases h : vld p s = 0
  · refine Run.start0 (tab := tab) (pf := []) (cuts := cuts18) mixed tab_ok trivial Try.func18 rfl [p.sv, s.sv, .v (.slice pp xs.length cap)] 1000 (by simp [SV.scs, SV.sc, Prm.sv, Prm.cells, Ste.sv, Ste.cells]) rfl ?_
    conv => whnf
    refine Run.newCell p s h rfl rfl rfl rfl rfl rfl rfl rfl ?_
    refine Run.of_wpK (hc _ rfl) 1000 _ ?_
    conv => whnf
    split
    · rename_i hl
      have hl := of_decide_eq_true hl
      conv => whnf
      refine ⟨fun ρ w' hW _ => ⟨.slice none 0 0, ?_, hW.toExt, ?_⟩⟩
      · rw [runR, if_pos h, if_neg (by omega)]; rfl
      · rw [runR, if_pos h, if_neg (by omega)]; exact World.ownsRow_nil _ _ _ _
    · rename_i hl
      have hl := of_decide_eq_false hl
      conv => whnf
      refine Run.all pp xs.length cap rfl rfl rfl rfl rfl rfl rfl rfl ?_
      refine Run.of_wpK (hc _ rfl) 1000 _ ?_
      conv => whnf
      refine Run.spikes p s (0 + 1 + 1 + 1) (chk_known (vld_zero h).1) rfl rfl rfl rfl rfl rfl rfl rfl rfl (ent _ _ Try.func54 (by kernel_rfl) rfl) xs (numbered xs) (numbered_ok xs) (by omega) (fun ρ w1 hW => ?_) ?_
      · have h3 := hW.new (0 + 1 + 1 + 1) _ rfl trivial
        have h4 := hW.mem (0 + 1 + 1 + 1 + 1) _ rfl
        obtain ⟨h40, h41⟩ := h4.2.2
        have hsz : w.heap.size ≤ w1.heap.size := hW.size
        refine ⟨ρ.s (0 + 1 + 1 + 1 + 1) :: (if xs = [] then [] else (Value.slice pp xs.length cap).ownBlock.toList), fun k hk => ?_, ?_⟩
        · rcases List.mem_cons.1 hk with rfl | hk
          · exact ⟨SObj.holds_lt h4.2.2 trivial, hW.dist _ _ _ _ rfl rfl (by omega) trivial trivial⟩
          · split at hk
            · cases hk
            · rename_i hne
              have hlt : k < w.heap.size := hr.blk (by simpa [ints] using hne) (by simpa using hk)
              rcases h3 with ⟨q, hq, _⟩ | h3
              · cases hq
              · have h3 : w.heap.size ≤ ρ.s (0 + 1 + 1 + 1) := h3
                exact ⟨by omega, by omega⟩
        · have e : SV.concs ρ [.ptr (0 + 1 + 1 + 1 + 1) 0] = [.pointer (some ⟨ρ.s (0 + 1 + 1 + 1 + 1), 0, none⟩)] := by simp only [SV.concs, SV.conc, h40]
          rw [e]
          refine all_iter _ (.slice pp xs.length cap) xs w1 ?_ (hr.ext hW.toExt) (by omega) _ (fun hne k hk => by rw [if_neg hne]; simp [hk])
          simp [World.cell?, h41, SV.concs, SV.conc]
      refine Run.of_wpK (hc _ rfl) 1000 _ ?_
      conv => whnf
      refine ⟨by kernel_rfl, ?_⟩
      conv => whnf
      refine ⟨fun ρ w' hW _ => ⟨(SV.opq (0 + 1 + 1 + 1 + 1 + 1)).conc ρ, ?_, hW.toExt, ?_⟩⟩
      · rw [runR, if_pos h, if_pos (by omega)]; rfl
      · rw [runR, if_pos h, if_pos (by omega)]
        have := hW.ownsNew (i := 0 + 1 + 1 + 1 + 1 + 1) (e := 1) rfl Nat.one_pos
        rw [concs_i] at this
        exact this
  · refine Run.start0 (tab := tab) (pf := []) (cuts := cuts18) mixed tab_ok trivial Try.func18 rfl [p.sv, s.sv, .v (.slice pp xs.length cap)] 1000 (by simp [SV.scs, SV.sc, Prm.sv, Prm.cells, Ste.sv, Ste.cells]) rfl ?_
    conv => whnf
    refine Run.newCell_bad p s h rfl rfl rfl rfl rfl rfl rfl rfl ?_
    refine Run.of_wpK (hc _ rfl) 1000 _ ?_
    conv => whnf
    split
    · rename_i hn
      conv => whnf
      refine ⟨fun ρ w' hW _ => ⟨.slice none 0 0, ?_, hW.toExt, ?_⟩⟩
      · rw [runR, if_neg h]; rfl
      · rw [runR, if_neg h]; exact World.ownsRow_nil _ _ _ _
    · rename_i hn
      exact absurd (by simpa using hn) h

theorem Silent_run (p : Prm) (s : Ste) (n : Int) (w : World) : Calls Try.prog 27 #[p.sv.conc env0, s.sv.conc env0, .int .i64 n] w (RunPost (silR p s n) w) := by
  have hc : ∀ (q : Cx), q = ⟨Try.prog, tab, pf1, 27, Try.f27, cuts27, w, [], none⟩ → q.ok := by
    rintro _ rfl
    exact ⟨tab_ok, pf1_ok, Try.func27, mixed, fun _ h => by cases h⟩
  by_cases h : vld p s = 0
  · refine Run.start0 (tab := tab) (pf := pf1) (cuts := cuts27) mixed tab_ok pf1_ok Try.func27 rfl [p.sv, s.sv, ii n] 1000 (by simp [SV.scs, SV.sc, Prm.sv, Prm.cells, Ste.sv, Ste.cells]) rfl ?_
    conv => whnf
    refine Run.newCell p s h rfl rfl rfl rfl rfl rfl rfl rfl ?_
    refine Run.of_wpK (hc _ rfl) 1000 _ ?_
    conv => whnf
    cases hl : wi n 0 10000
    · conv => whnf
      refine ⟨fun ρ w' hW _ => ⟨.slice none 0 0, ?_, hW.toExt, ?_⟩⟩
      · rw [silR, if_pos h, if_neg (fun hh => absurd (hl.symm.trans hh) (by decide))]; rfl
      · rw [silR, if_pos h, if_neg (fun hh => absurd (hl.symm.trans hh) (by decide))]; exact World.ownsRow_nil _ _ _ _
    · conv => whnf
      have hn : 0 ≤ n ∧ n ≤ 10000 := by simpa [wi] using hl
      obtain ⟨m, rfl⟩ : ∃ m : Nat, n = (m : Int) := ⟨n.toNat, by omega⟩
      refine Run.spikes p s (0 + 1 + 1 + 1 + 1) (chk_known (vld_zero h).1) rfl rfl rfl rfl rfl rfl rfl rfl rfl (ent _ _ Try.func48 (by kernel_rfl) rfl) (List.replicate m 0) (silences m) (silences_ok m) (by simp; omega) (fun ρ w1 hW => ?_) ?_
      · have h3 := hW.new (0 + 1 + 1 + 1 + 1) _ rfl trivial
        have h4 := hW.mem (0 + 1 + 1) _ rfl
        obtain ⟨h40, h41⟩ := h4.2.2
        refine ⟨[ρ.s (0 + 1 + 1)], fun k hk => ?_, ?_⟩
        · simp only [List.mem_singleton] at hk
          subst hk
          exact ⟨SObj.holds_lt h4.2.2 trivial, hW.dist _ _ _ _ rfl rfl (by omega) trivial trivial⟩
        · have e : SV.concs ρ [.ptr (0 + 1 + 1) 0] = [.pointer (some ⟨ρ.s (0 + 1 + 1), 0, none⟩)] := by simp only [SV.concs, SV.conc, h40]
          rw [e]
          refine silent_iter _ m w1 ?_ (by omega)
          simp [World.cell?, h41, SV.concs, SV.conc]
      refine Run.of_wpK (hc _ rfl) 1000 _ ?_
      conv => whnf
      refine ⟨by kernel_rfl, ?_⟩
      conv => whnf
      refine ⟨fun ρ w' hW _ => ⟨(SV.opq (0 + 1 + 1 + 1 + 1 + 1)).conc ρ, ?_, hW.toExt, ?_⟩⟩
      · rw [silR, if_pos h, if_pos hl, Int.toNat_natCast]; rfl
      · rw [silR, if_pos h, if_pos hl, Int.toNat_natCast]
        have := hW.ownsNew (i := 0 + 1 + 1 + 1 + 1 + 1) (e := 1) rfl Nat.one_pos
        rw [concs_i] at this
        exact this
  · refine Run.start0 (tab := tab) (pf := pf1) (cuts := cuts27) mixed tab_ok pf1_ok Try.func27 rfl [p.sv, s.sv, ii n] 1000 (by simp [SV.scs, SV.sc, Prm.sv, Prm.cells, Ste.sv, Ste.cells]) rfl ?_
    conv => whnf
    refine Run.newCell_bad p s h rfl rfl rfl rfl rfl rfl rfl rfl ?_
    refine Run.of_wpK (hc _ rfl) 1000 _ ?_
    conv => whnf
    split
    · rename_i hn
      conv => whnf
      refine ⟨fun ρ w' hW _ => ⟨.slice none 0 0, ?_, hW.toExt, ?_⟩⟩
      · rw [silR, if_neg h]; rfl
      · rw [silR, if_neg h]; exact World.ownsRow_nil _ _ _ _
    · rename_i hn
      exact absurd (by simpa using hn) h
end Go.Proofs.Ytoipnojibkjjnaa
