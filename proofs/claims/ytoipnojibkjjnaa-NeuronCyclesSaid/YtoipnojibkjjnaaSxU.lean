/-
  A small symbolic executor over the model (part U): a callee that is run on the caller's own blocks; make with room; strings of bytes.
  No condition: these are definitions and laws that hold of every program.
-/
import Derived.Test.YtoipnojibkjjnaaSxT
import Derived.Laws.BytesString
import Derived.Laws.IdiomStrings
namespace Go.Sx

theorem Run.callsAt {c : Cx} {cd : Code} {w : World} {R : Ending → World → Prop} (hrd : c.rd = none) (hf : c.P.funcs[c.f]? = some c.fn) (hb : c.fn.body = some cd) (ρ : Env) (args : List SV) (M : List (Nat × SObj)) (n : Nat)
    (hs : SV.scs (· < n) args) (hN : Nat.ble (lenL args) c.fn.ntmps = true) (hW : WI c.w0 c.L ρ (look M) (· < n) w) (h : Run c ⟨numb 0 args, M, n, [], [.code cd]⟩ R) : Calls c.P c.f (SV.concs ρ args).toArray w R := by
  have hN : args.length ≤ c.fn.ntmps := by rw [← lenL_eq]; exact Nat.le_of_ble_eq_true hN
  have hrr : c.rr = none := by simp [Cx.rr, hrd]
  have hgo := h.go ρ { tmps := (SV.concs ρ args).toArray ++ Array.replicate (c.fn.ntmps - (SV.concs ρ args).toArray.size) undef, defers := [] } w ⟨?_, ?_, rfl, hW⟩
  · rw [hrr] at hgo
    exact TW.calls hf hb hgo
  · simp [concs_length]; omega
  · intro t v ht
    obtain ⟨_, h2⟩ := numb_look args 0 t v ht
    simp only [Nat.sub_zero] at h2
    have hlt : t < args.length := by
      rcases Nat.lt_or_ge t args.length with h | h
      · exact h
      · rw [List.getElem?_eq_none h] at h2; cases h2
    refine ⟨by simp [concs_length]; omega, ?_, (scs_iff _ _).1 hs v (List.mem_of_getElem? h2)⟩
    have : ((SV.concs ρ args).toArray ++ Array.replicate (c.fn.ntmps - (SV.concs ρ args).toArray.size) undef)[t]? = some (v.conc ρ) := by
      rw [Array.getElem?_append_left (by simp [concs_length]; exact hlt)]
      simp [concs_map, h2]
    rw [Array.getD_eq_getD_getElem?, this]; rfl

mutual
/-- All its blocks are of these. -/
def SV.pin (is : List Nat) : SV → Prop
  | .v _ => True
  | .ptr i _ => i ∈ is
  | .slc i _ _ _ => i ∈ is
  | .opq _ => False
  | .fn _ caps => SV.pins is caps
  | .agg cs => SV.pins is cs
  | .tup vs => SV.pins is vs
def SV.pins (is : List Nat) : List SV → Prop
  | [] => True
  | a :: l => SV.pin is a ∧ SV.pins is l
end
mutual
theorem pin_conc {is : List Nat} {ρ ρ' : Env} (h : ∀ j ∈ is, ρ'.s j = ρ.s j ∧ ρ'.o j = ρ.o j) : ∀ (v : SV), v.pin is → v.conc ρ' = v.conc ρ
  | .v _, _ => rfl
  | .ptr i _, hp => by simp only [SV.pin] at hp; simp only [SV.conc, (h i hp).1, (h i hp).2]
  | .slc i _ _ _, hp => by simp only [SV.pin] at hp; simp only [SV.conc, (h i hp).1, (h i hp).2]
  | .opq _, hp => hp.elim
  | .fn _ caps, hp => by simp only [SV.conc, pins_conc h caps hp]
  | .agg cs, hp => by simp only [SV.conc, pins_conc h cs hp]
  | .tup vs, hp => by simp only [SV.conc, pins_conc h vs hp]
theorem pins_conc {is : List Nat} {ρ ρ' : Env} (h : ∀ j ∈ is, ρ'.s j = ρ.s j ∧ ρ'.o j = ρ.o j) : ∀ (l : List SV), SV.pins is l → SV.concs ρ' l = SV.concs ρ l
  | [], _ => rfl
  | a :: l, hp => by simp only [SV.concs, pin_conc h a hp.1, pins_conc h l hp.2]
end
mutual
theorem pin_sc {is : List Nat} {S : Nat → Prop} (h : ∀ j ∈ is, S j) : ∀ (v : SV), v.pin is → v.sc S
  | .v _, _ => trivial
  | .ptr i _, hp => h i hp
  | .slc i _ _ _, hp => h i hp
  | .opq _, hp => hp.elim
  | .fn _ caps, hp => pins_sc h caps hp
  | .agg cs, hp => pins_sc h cs hp
  | .tup vs, hp => pins_sc h vs hp
theorem pins_sc {is : List Nat} {S : Nat → Prop} (h : ∀ j ∈ is, S j) : ∀ (l : List SV), SV.pins is l → SV.scs S l
  | [], _ => trivial
  | a :: l, hp => ⟨pin_sc h a hp.1, pins_sc h l hp.2⟩
end

/-- A callee that is run on the caller's own blocks: 'is': those that stand, before and behind; its value is a plain one. -/
theorem Run.inlineP {c : Cx} {T T0 : List (Nat × SV)} {M : List (Nat × SObj)} {n : Nat} {D : List Deferred} {ops : Array Oper} {i : Nat} {r : List Nat} {k : List Item} {R : Ending → World → Prop} {o : Oper} {f : Operand} {args : Array Operand} {ts : Array TypeId}
    {fv : SV} {g : FuncId} {caps vs : List SV} (ho : get ops.toList i = some o) (hop : o.op = .call { callee := .value f, args := args, argTypes := ts }) (hw : wantS ops.toList (look T) o = some true) (hd : okD c.fn.ntmps o.dst = true)
    (hf : ev (look T) f = some fv) (hfv : calleeOf fv = some (g, caps)) (hvs : evs (look T) args.toList = some vs) (hg : Enters c.P g) {fn' : Func} {cd : Code} (hfn : c.P.funcs[g]? = some fn') (hb : fn'.body = some cd) (hN : Nat.ble (lenL (vs ++ caps)) fn'.ntmps = true)
    (cuts' : List (Nat × Nat)) (is : List Nat) (M' : List (Nat × SObj)) (n' : Nat) (rv : Value) (his : ∀ j ∈ is, j < n ∧ ∃ cs t, look M j = some (.cells cs t)) (his' : ∀ j ∈ is, j < n' ∧ ∃ cs t, look M' j = some (.cells cs t)) (hcL : ∀ p ∈ c.L, p.1 ∈ is)
    (hT0 : ∀ y ∈ T0, look T y.1 = some y.2 ∧ y.2.pin is)
    (hrun : ∀ L', (∀ p ∈ L', p.1 ∈ is) → Widens c.w0 c.L L' → Run { c with f := g, fn := fn', cuts := cuts', L := L', rd := none } ⟨numb 0 (vs ++ caps), M, n, [], [.code cd]⟩ (fun e w' => e = .returned rv ∧ ∃ ρ, WI c.w0 L' ρ (look M') (· < n') w'))
    (h : Run c ⟨putS T0 o.dst (.v rv), M', n', D, .inRegion ops r :: k⟩ R) : Run c ⟨T, M, n, D, .inRegion ops (i :: r) :: k⟩ R := by
  refine ⟨fun ρ a w hi => ?_⟩
  rw [get_eq, Array.getElem?_toList] at ho
  refine TW.op ho (wantS_ok hi.tm hw) ?_
  obtain ⟨h1, h2⟩ := ev_ok hi.tm hf
  obtain ⟨h3, h4⟩ := calleeOf_ok (ρ := ρ) (S := (· < n)) hfv
  obtain ⟨h5, h6⟩ := evs_ok hi.tm hvs
  have hr := run_callValue (P := c.P) (w := w) (o := o) hg (h1.trans h3) hop
  have hargs : args.map a.eval ++ (SV.concs ρ caps).toArray = (SV.concs ρ (vs ++ caps)).toArray := by
    rw [concs_append, ← h5]; apply Array.ext'; simp
  unfold Oc
  rw [hr]
  simp only
  rw [hargs]
  let L' : List (Nat × Nat) := is.map fun j => (j, ρ.s j)
  have hL1 : ∀ p ∈ L', p.1 ∈ is := by
    intro p hp
    obtain ⟨j, hj, rfl⟩ := List.mem_map.1 hp
    exact hj
  have hL2 : ∀ j ∈ is, (j, ρ.s j) ∈ L' := fun j hj => List.mem_map.2 ⟨j, hj, rfl⟩
  have hwid : Widens c.w0 c.L L' := by
    refine ⟨fun p hp => ?_, fun p hp => ?_⟩
    · have h5 := hi.wi.lid p hp
      have := hL2 p.1 (hcL p hp)
      rw [h5.2] at this
      exact this
    · obtain ⟨j, hj, rfl⟩ := List.mem_map.1 hp
      obtain ⟨hjn, cs, t, hj'⟩ := his j hj
      exact hi.wi.new j _ hj' trivial
  have hWL := hi.wi.widen hwid (fun p hp => by
    obtain ⟨j, hj, rfl⟩ := List.mem_map.1 hp
    exact ⟨(his j hj).1, rfl⟩)
  have hcalls := Run.callsAt (c := { c with f := g, fn := fn', cuts := cuts', L := L', rd := none }) rfl hfn hb ρ (vs ++ caps) M n (scs_append h6 (h4 h2)) hN hWL (hrun L' hL1 hwid)
  refine hcalls.mono fun e w' ⟨he, ρ', hW'⟩ => ⟨rv, he, ?_⟩
  have hag : ∀ j ∈ is, ρ'.s j = ρ.s j ∧ ρ'.o j = ρ.o j := by
    intro j hj
    refine ⟨(hW'.lid (j, ρ.s j) (hL2 j hj)).2, ?_⟩
    rw [ptr_fix hW' (his' j hj).2, ptr_fix hi.wi (his j hj).2]
  have hi' : Inv c ρ' ⟨T0, M', n', D, .inRegion ops (i :: r) :: k⟩ a w' := by
    refine ⟨hi.sz, fun t v ht => ?_, hi.df, hW'.narrow hwid⟩
    obtain ⟨hT, hpin⟩ := hT0 _ (look_mem ht)
    obtain ⟨g1, g2, g3⟩ := hi.tm t v hT
    exact ⟨g1, by rw [pin_conc hag v hpin]; exact g2, pin_sc (fun j hj => (his' j hj).1) v hpin⟩
  exact h.go ρ' _ w' (hi'.put hd (Env.agree.refl _ _) (Nat.le_refl _) (v := .v rv) trivial hi'.wi _)

/-- 'make' of an empty slice with room. -/
theorem Run.makeRoom {c : Cx} (hc : c.ok) {T : List (Nat × SV)} {M : List (Nat × SObj)} {n : Nat} {D : List Deferred} {ops : Array Oper} {i : Nat} {r : List Nat} {k : List Item} {R : Ending → World → Prop} {o : Oper} {x y : Operand} {t : TypeId}
    (ho : get ops.toList i = some o) (hop : o.op = .makeSlice t x y) (hw : wantS ops.toList (look T) o = some true) (hd : okD c.fn.ntmps o.dst = true)
    {kx ky : IntKind} {q : Int} (hx : ev (look T) x = some (.v (.int kx 0))) (hy : ev (look T) y = some (.v (.int ky q))) (hq : 0 ≤ q) (hq2 : q ≤ 1000000)
    {ti tie : TI} {te : TypeId} {bytes : Nat} (hti : look c.tab t = some ti) (hsh : ti.sh = .slc te 1 bytes) (hte : look c.tab te = some tie) (hz : tie.zero.length = 1) (hby : bytes ≤ 8)
    (h : Run c ⟨putS T o.dst (.opq n), (n, .row 1 0 [] te) :: M, n + 1, D, .inRegion ops r :: k⟩ R) : Run c ⟨T, M, n, D, .inRegion ops (i :: r) :: k⟩ R := by
  refine ⟨fun ρ a w hi => ?_⟩
  rw [get_eq, Array.getElem?_toList] at ho
  refine TW.op ho (wantS_ok hi.tm hw) ?_
  obtain ⟨h1, _⟩ := ev_ok hi.tm hx
  obtain ⟨h2, _⟩ := ev_ok hi.tm hy
  have hti := Tab.ok_look hc.tab hti
  have hte := Tab.ok_look hc.tab hte
  obtain ⟨d, hd1, hd2⟩ := hti.desc
  obtain ⟨inf, rfl, g2, g3, g4⟩ := sh_desc.2.2.2.2.1 te 1 bytes (hd2.trans hsh)
  obtain ⟨inf', z, i1, _, i3, i4⟩ := hte.infos
  rw [g2] at i1
  obtain rfl := Option.some.inj i1
  obtain ⟨m, rfl⟩ : ∃ m : Nat, q = (m : Int) := ⟨q.toNat, by omega⟩
  have hmul : bytes * m ≤ 8 * m := Nat.mul_le_mul_right _ hby
  have hbm : (inf.bytes : Int) * (m : Int) ≤ 281474976710656 := by
    rw [g4]
    have : ((bytes * m : Nat) : Int) ≤ 281474976710656 := by omega
    rwa [Int.natCast_mul] at this
  have hr := run_make (P := c.P) (w := w) t te inf z hd1 g2 i3 kx ky 0 (m : Int) (Int.le_refl 0) (by omega) hbm (by omega)
  rw [g3, Nat.mul_one, Int.toNat_natCast] at hr
  have hzs : z.cells.size = 1 := by rw [← hz, ← i4]; simp
  have hrow : (w.alloc (.cells (madeCells z.cells m) te)).ownsRow 0 te 1 (.slice (some ⟨w.heap.size, 0, none⟩) 0 m) 0 (SV.concs ρ []) := by
    have := World.ownsRow_made (e := te) (size := 1) w (madeCells z.cells m) m (base := 0) (Nat.zero_le _) (by simp only [maxLen]; omega) (by rw [size_madeCells]; omega)
    exact this
  have hrun : (execOp a.eval o).run c.P w = .ok (.value (.slice (some ⟨w.heap.size, 0, none⟩) 0 m)) (w.alloc (.cells (madeCells z.cells m) te)) := by
    simp only [SV.conc] at h1 h2
    simp [execOp, hop, h1, h2, hr]
  obtain ⟨hW', hag⟩ := hi.wi.rowTo (M1 := look M) (fun _ _ h => h) (i := n) (Nat.lt_irrefl n) (xs := []) (t := te) (e := 1) (n := 0) (World.grownBy_alloc w _ none) (fun b hb => by cases hb) (fun g hg => .inr (by simp [Value.ownBlock] at hg; omega)) hrow trivial
  refine Oc.value hrun ?_
  have hW2 : WI c.w0 c.L (ρ.bindV n (.slice (some ⟨w.heap.size, 0, none⟩) 0 m)) (look ((n, .row 1 0 [] te) :: M)) (· < n + 1) (w.alloc (.cells (madeCells z.cells m) te)) := by
    rw [look_upd]; exact hW'.mono fun q hq => by have hq : q < n ∨ q = n := hq; omega
  have hinv := hi.put (ρ' := ρ.bindV n (.slice (some ⟨w.heap.size, 0, none⟩) 0 m)) hd hag (Nat.le_succ n) (v := .opq n) (Nat.lt_succ_self n) hW2 (.inRegion ops r :: k)
  rw [conc_bindV hrow] at hinv
  exact h.go _ _ _ hinv

/-! ### Strings of bytes -/
def strOf (ns : List Int) : ByteArray := ns.foldl (fun r n => r.push (UInt8.ofNat n.toNat)) ByteArray.empty
theorem Run.toStr {c : Cx} {T : List (Nat × SV)} {M : List (Nat × SObj)} {n : Nat} {D : List Deferred} {ops : Array Oper} {i : Nat} {r : List Nat} {k : List Item} {R : Ending → World → Prop} {o : Oper} {x : Operand} {src dst e : TypeId} {sv : SV} (ns : List Int)
    (ho : get ops.toList i = some o) (hop : o.op = .convert src dst x) (hw : wantS ops.toList (look T) o = some true) (hd : okD c.fn.ntmps o.dst = true) (hx : ev (look T) x = some sv)
    (hs : c.P.underlying src = some (.slice e)) (he : c.P.underlying e = some (.int .u8)) (hdst : c.P.underlying dst = some .string)
    (hrow : ∀ ρ w, WI c.w0 c.L ρ (look M) (· < n) w → RowAt w (sv.conc ρ) (ns.map fun x => .int .u8 x))
    (h : Run c ⟨putS T o.dst (.v (.string (strOf ns))), M, n, D, .inRegion ops r :: k⟩ R) : Run c ⟨T, M, n, D, .inRegion ops (i :: r) :: k⟩ R := by
  refine ⟨fun ρ a w hi => ?_⟩
  rw [get_eq, Array.getElem?_toList] at ho
  refine TW.op ho (wantS_ok hi.tm hw) ?_
  obtain ⟨h1, _⟩ := ev_ok hi.tm hx
  have hr := hrow ρ w hi.wi
  have hconv : (convert src dst (sv.conc ρ)).run c.P w = .ok (.string (strOf ns)) w := by
    rcases hr with ⟨⟨p, cap, hv⟩, hn⟩ | ⟨blk, off, cap, hv, hcells⟩
    · have hn : ns = [] := by simpa using hn
      subst hn
      rw [hv, run_convert_bytes_string w src dst e p 0 cap hs he hdst]
      cases p with
      | none => rfl
      | some a =>
        exact run_bytesToString w a 0 cap [] (by simp [loadCells, loadCellsFrom])
    · have hl : (ns.map fun x => Value.int .u8 x).length = ns.length := by simp
      rw [hv, hl, run_convert_bytes_string w src dst e _ _ cap hs he hdst]
      refine run_bytesToString w _ ns.length cap ns ?_
      have := run_loadCells_list (P := c.P) w ⟨blk, off, none⟩ (ns.map fun x => .int .u8 x) (fun j v hj => by rw [addr_add]; exact hcells j v hj)
      rw [hl] at this
      exact this
  refine Oc.value (w' := w) (v := .string (strOf ns)) (by simp [execOp, hop, h1, hconv]) ?_
  exact h.go ρ _ w (hi.put hd (Env.agree.refl _ ρ) (Nat.le_refl _) (v := .v (.string (strOf ns))) trivial hi.wi _)
theorem Run.eqStr {c : Cx} {T : List (Nat × SV)} {M : List (Nat × SObj)} {n : Nat} {D : List Deferred} {ops : Array Oper} {i : Nat} {r : List Nat} {k : List Item} {R : Ending → World → Prop} {o : Oper} {x y : Operand} {t t2 : TypeId} {a1 a2 : ByteArray}
    (ho : get ops.toList i = some o) (hop : o.op = .binOp .eql t x y t2) (hw : wantS ops.toList (look T) o = some true) (hd : okD c.fn.ntmps o.dst = true) (hx : ev (look T) x = some (.v (.string a1))) (hy : ev (look T) y = some (.v (.string a2)))
    (h : Run c ⟨putS T o.dst (.v (.bool (a1.toList == a2.toList))), M, n, D, .inRegion ops r :: k⟩ R) : Run c ⟨T, M, n, D, .inRegion ops (i :: r) :: k⟩ R := by
  refine ⟨fun ρ a w hi => ?_⟩
  rw [get_eq, Array.getElem?_toList] at ho
  refine TW.op ho (wantS_ok hi.tm hw) ?_
  obtain ⟨h1, _⟩ := ev_ok hi.tm hx
  obtain ⟨h2, _⟩ := ev_ok hi.tm hy
  simp only [SV.conc] at h1 h2
  refine Oc.value (w' := w) (v := .bool (a1.toList == a2.toList)) (by simp [execOp, hop, h1, h2, eqGuard_at_string, binOp_string_eql]) ?_
  exact h.go ρ _ w (hi.put hd (Env.agree.refl _ ρ) (Nat.le_refl _) (v := .v (.bool (a1.toList == a2.toList))) trivial hi.wi _)
end Go.Sx
