/-
  A small symbolic executor over the model (part Q): append, makeSlice, slices that a callee has made.
  No condition: these are definitions and laws that hold of every program.
-/
import Derived.Test.YtoipnojibkjjnaaSxP
namespace Go.Sx

section
variable {w0 w w' : World} {L : List (Nat × Nat)} {ρ : Env} {M : Mem} {S : Nat → Prop}
/-- A callee has written a told block, and made a row. -/
theorem WI.modRow (hW : WI w0 L ρ M S w) {i j : Nat} {o o' : SObj} (hi : M i = some o) (hocc : o.occ ρ i) (hm : Mod w (ρ.s i) w') (ho' : o'.sc S) (hh : o'.holds w0 L ρ i w') (hj : ¬ S j) {v : Value} {e n : Nat} {xs : List SV} {t : TypeId}
    (ho : w'.ownsRow w.heap.size t e v n (SV.concs ρ xs)) (hs : SV.scs S xs) :
    WI w0 L (ρ.bindV j v) (upd (upd M i o') j (.row e n xs t)) (fun k => S k ∨ k = j) w' ∧ Env.agree S ρ (ρ.bindV j v) := by
  have hW1 := hW.modify hi hocc hm ho' hh
  refine hW1.rowAs (row := none) (fun _ _ h => h) hj ⟨rfl, rfl, rfl, Nat.le_refl _, fun _ _ _ => rfl⟩ (fun b hb => by cases hb) (fun g hgv => ?_) (ownsRow_mono ho (Nat.zero_le _)) hs
  have hge := (ho.lt g hgv).1
  refine ⟨fun k ok hk ck => ?_, .inr (by have := hW.size; omega)⟩
  by_cases e' : i = k
  · subst e'
    have := SObj.holds_lt (hW.mem i o hi).2.2 hocc
    omega
  · rw [upd_other _ _ e'] at hk
    have := SObj.holds_lt (hW.mem k ok hk).2.2 ck
    omega
end

section
variable {P : Program} (w : World)
theorem run_append_two (t ty e : TypeId) (i : TypeInfo) (z : Value) (size : Nat) (ht : P.underlying t = some (.slice e)) (hi : P.info? e = some i) (hz : i.zero = some z)
    (hsize : i.size = size) (hzs : z.cells.size = size) (hsz : 0 < size) (v : Value) (n : Nat) (xs : List Value) (hown : w.ownsRow 0 e size v n xs)
    (a : Addr) (m c : Nat) (news : List Value) (hl : news.length = m * size) (hnews : ∀ j u, news[j]? = some u → w.cell? (a.add j) = some u) (h1 : ∀ u ∈ news, u.oneCell' = true)
    (h63 : n + m ≤ maxLen) (hbytes : (n + m) * i.bytes ≤ 140737488355328) :
    ∃ v' w' row, (Builtin.append_ #[t, t] ty #[v, .slice (some a) m c]).run P w = .ok v' w' ∧ w'.ownsRow 0 e size v' (n + m) (xs ++ news) ∧ w.grownBy w' row ∧ (row = none ∨ row = v.ownBlock) ∧
      ∀ g, v'.ownBlock = some g → row = some g ∨ w.heap.size ≤ g := by
  rcases hown.2 with ⟨rfl, rfl⟩ | ⟨g, cap, cur, rfl, hbg, hg, hnc, hcm, hcs, htake⟩
  · have hx : xs = [] := List.eq_nil_of_length_eq_zero (by simpa using hown.1)
    subst hx
    obtain ⟨v', w', q1, q2, q3, _⟩ := run_append_own (P := P) w w.heap.size t ty e i z size i.bytes ht hi hz hsize rfl hzs hsz (.slice none 0 0) 0 [] (World.ownsRow_nil w _ _ _) a m c news hl hnews h1 h63 hbytes (Nat.le_refl _)
    refine ⟨v', w', none, q1, ownsRow_mono q2 (Nat.zero_le _), q3, .inl rfl, fun g hg => .inr (q2.lt g hg).1⟩
  · by_cases hroom : n + m ≤ cap
    · obtain ⟨w', q1, q2, q3⟩ := run_append_fits (P := P) w 0 t ty e i size ht hi hsize g n cap xs hown a m c news hl hnews h1 hroom
      exact ⟨_, w', some g, q1, q2, q3, .inr rfl, fun g' hg' => .inl hg'⟩
    · subst hsize
      have holds : ∀ j u, xs[j]? = some u → w.cell? ((⟨g, 0, none⟩ : Addr).add j) = some u := hown.cells (g := g) rfl
      have hsmall : n + m ≤ 9223372036854775807 := by simp only [maxLen] at h63; omega
      have hr := run_append_grow (P := P) w t ty e i z ht hi hz ⟨g, 0, none⟩ n cap xs hown.1 holds a m c news hl hnews (by omega) (by omega) (growslice_fits (by omega) hbytes)
      have hlen : (xs ++ news).length = (n + m) * i.size := by rw [List.length_append, hown.1, hl, Nat.add_mul]
      have hge := grownCap_ge w (n + m) cap e
      have hcm' : grownCap w (n + m) cap e ≤ maxLen := grownCap_le_maxLen w (n + m) cap e h63
      refine ⟨_, _, none, hr, ⟨hlen, .inr ⟨w.heap.size, _, _, rfl, Nat.zero_le _, heap_alloc_new w.drew _, hge, hcm', ?_, ?_⟩⟩, ⟨rfl, rfl, rfl, by simp, fun k hk _ => heap_alloc_old w.drew _ k hk⟩, .inl rfl, fun g' hg' => ?_⟩
      · simp only [Array.size_append, List.size_toArray, size_zeroCells, hzs, hown.1, hl, ← Nat.add_mul]
        congr 1
        omega
      · simp only [Array.toList_append, List.append_assoc]
        rw [← List.append_assoc, ← hlen]
        exact List.take_left
      · simp only [Value.ownBlock, Option.some.injEq] at hg'
        right; omega
end

theorem Ext.grown {w w' : World} (h : Ext w w') (row : Option Nat) : w.grownBy w' row := ⟨h.os, h.tape, h.output, h.size, fun k hk _ => h.keep k hk⟩

theorem Run.append {c : Cx} (hc : c.ok) {T : List (Nat × SV)} {M : List (Nat × SObj)} {n : Nat} {D : List Deferred} {ops : Array Oper} {i : Nat} {r : List Nat} {k : List Item} {R : Ending → World → Prop} {o : Oper} {x y : Operand} {t : TypeId}
    (ho : get ops.toList i = some o) (hop : o.op = .call { callee := .builtin .append, args := #[x, y], argTypes := #[t, t] }) (hw : wantS ops.toList (look T) o = some true) (hd : okD c.fn.ntmps o.dst = true)
    {j e m : Nat} {xs : List SV} {te : TypeId} (hx : ev (look T) x = some (.opq j)) (hj : look M j = some (.row e m xs te))
    {j2 off len cap : Nat} {ob : SObj} {cs news : List SV} (hy : ev (look T) y = some (.slc j2 off len cap)) (hj2 : look M j2 = some ob) (hl : ob.list = some cs) (hnews : takeD cs off (len * e) = some news) (hone : allOne news = true)
    {ti tie : TI} {bytes : Nat} (hti : look c.tab t = some ti) (hsh : ti.sh = .slc te e bytes) (hte : look c.tab te = some tie) (hz : tie.zero.length = e) (he : 0 < e)
    (hfit : (m + len) * bytes ≤ 140737488355328 ∧ m + len < 9223372036854775808) (M' : List (Nat × SObj)) (hM' : ∀ p ∈ M', look M p.1 = some p.2 ∧ p.1 ≠ j)
    (h : Run c ⟨putS T o.dst (.opq n), (n, .row e (m + len) (xs ++ news) te) :: M', n + 1, D, .inRegion ops r :: k⟩ R) : Run c ⟨T, M, n, D, .inRegion ops (i :: r) :: k⟩ R := by
  refine ⟨fun ρ a w hi => ?_⟩
  rw [get_eq, Array.getElem?_toList] at ho
  refine TW.op ho (wantS_ok hi.tm hw) ?_
  obtain ⟨h1, _⟩ := ev_ok hi.tm hx
  obtain ⟨h2, _⟩ := ev_ok hi.tm hy
  have hti := Tab.ok_look hc.tab hti
  have hte := Tab.ok_look hc.tab hte
  obtain ⟨d, hd1, hd2⟩ := hti.desc
  obtain ⟨inf, rfl, g2, g3, g4⟩ := sh_desc.2.2.2.2.1 te e bytes (hd2.trans hsh)
  obtain ⟨inf', z, i1, _, i3, i4⟩ := hte.infos
  rw [g2] at i1
  obtain rfl := Option.some.inj i1
  have hzs : z.cells.size = e := by rw [← hz, ← i4]; simp
  obtain ⟨q1, q2⟩ := takeD_eq _ _ _ _ hnews
  obtain ⟨_, hscr, _⟩ := hi.wi.mem j _ hj
  obtain ⟨_, hscb, _⟩ := hi.wi.mem j2 _ hj2
  have hscs : SV.scs (· < n) cs := by cases ob <;> simp [SObj.list] at hl <;> (subst hl; exact hscb)
  have hscn : SV.scs (· < n) news := scs_of_mem hscs (fun x hx => by rw [q2] at hx; exact List.mem_of_mem_drop (List.mem_of_mem_take hx))
  have hnl : news.length = len * e := by rw [q2]; simp; omega
  have hcell : ∀ jj u, (SV.concs ρ news)[jj]? = some u → w.cell? ((⟨ρ.s j2, ρ.o j2 + off, none⟩ : Addr).add jj) = some u := by
    intro jj u hu
    rw [concs_map, List.getElem?_map] at hu
    cases hlj : news[jj]? with
    | none => simp [hlj] at hu
    | some cc =>
      simp [hlj] at hu
      subst hu
      have hjl : jj < news.length := by
        rcases Nat.lt_or_ge jj news.length with h | h
        · exact h
        · rw [List.getElem?_eq_none h] at hlj; cases hlj
      have hg' : get cs (off + jj) = some cc := by
        rw [get_eq, ← hlj, q2, List.getElem?_take_of_lt (by omega), List.getElem?_drop]
      rw [addr_add, Nat.add_assoc]
      exact hi.wi.cell hj2 hl hg'
  have hone' : ∀ u ∈ SV.concs ρ news, u.oneCell' = true := by
    intro u hu
    rw [concs_map] at hu
    obtain ⟨v, hv, rfl⟩ := List.mem_map.1 hu
    exact one_conc (allOne_mem hone v hv)
  have hown := hi.wi.owns hj he
  obtain ⟨v', w', row, r1, r2, r3, r4, r5⟩ := run_append_two (P := c.P) w t o.type te inf z e hd1 g2 i3 g3 hzs he _ m _ hown ⟨ρ.s j2, ρ.o j2 + off, none⟩ len cap (SV.concs ρ news) (by rw [concs_length, hnl]) hcell hone' (by simp only [maxLen]; omega) (by rw [g4]; exact hfit.1)
  have hrun : (execOp a.eval o).run c.P w = .ok (.value v') w' := by
    simp only [SV.conc] at h1 h2 r1
    simp [execOp, hop, resolve, invoke, builtin, h1, h2, r1]
  rw [← concs_append] at r2
  have hsub : ∀ kk oo, look M' kk = some oo → look M kk = some oo := fun kk oo hk => (hM' _ (look_mem hk)).1
  have hjocc : ∀ b, ((SV.opq j).conc ρ).ownBlock = some b → (SObj.row e m xs te).occ ρ j ∧ ρ.s j = b := by
    intro b hb
    obtain ⟨_, _, _, _, hh⟩ := hi.wi.mem j _ hj
    rcases hh with ⟨hh, _⟩ | ⟨cap', sp, hh, _⟩
    · simp [SV.conc, hh, Value.ownBlock] at hb
    · simp only [SV.conc, hh, Value.ownBlock, Option.some.injEq] at hb
      exact ⟨by simp [SObj.occ, hh], hb⟩
  obtain ⟨hW', hag⟩ := hi.wi.rowTo hsub (i := n) (Nat.lt_irrefl n) (xs := xs ++ news) (t := te) (e := e) (n := m + len) r3 (fun b hb => by
    rcases r4 with r4 | r4
    · rw [r4] at hb; cases hb
    · rw [r4] at hb
      obtain ⟨hocc, hs⟩ := hjocc b hb
      refine ⟨fun kk oo hk ck => ?_, ?_⟩
      · rw [← hs]
        exact hi.wi.dist kk j oo _ (hsub kk oo hk) hj (hM' _ (look_mem hk)).2 ck hocc
      · rw [← hs]; exact hi.wi.new j _ hj hocc) r5 r2 (scs_append hscr hscn)
  refine Oc.value hrun ?_
  have hW2 : WI c.w0 c.L (ρ.bindV n v') (look ((n, .row e (m + len) (xs ++ news) te) :: M')) (· < n + 1) w' := by
    rw [look_upd]; exact hW'.mono fun q hq => by have hq : q < n ∨ q = n := hq; omega
  have hinv := hi.put (ρ' := ρ.bindV n v') hd hag (Nat.le_succ n) (v := .opq n) (Nat.lt_succ_self n) hW2 (.inRegion ops r :: k)
  rw [conc_bindV r2] at hinv
  exact h.go _ _ w' hinv

/-- 'make' of a slice of elements of one cell each. -/
theorem Run.makeSlice {c : Cx} (hc : c.ok) {T : List (Nat × SV)} {M : List (Nat × SObj)} {n : Nat} {D : List Deferred} {ops : Array Oper} {i : Nat} {r : List Nat} {k : List Item} {R : Ending → World → Prop} {o : Oper} {x y : Operand} {t : TypeId}
    (ho : get ops.toList i = some o) (hop : o.op = .makeSlice t x y) (hw : wantS ops.toList (look T) o = some true) (hd : okD c.fn.ntmps o.dst = true)
    {kx ky : IntKind} {p q : Int} (m : Nat) (hx : ev (look T) x = some (.v (.int kx p))) (hy : ev (look T) y = some (.v (.int ky q))) (hp : p = (m : Int)) (hq : q = (m : Int))
    {ti tie : TI} {te : TypeId} {bytes : Nat} {zv : Value} (hti : look c.tab t = some ti) (hsh : ti.sh = .slc te 1 bytes) (hte : look c.tab te = some tie) (hz : tie.zero = [zv])
    (hfit : bytes * m ≤ 281474976710656 ∧ m ≤ 16777216)
    (h : Run c ⟨putS T o.dst (.opq n), (n, .row 1 m (List.replicate m (.v zv)) te) :: M, n + 1, D, .inRegion ops r :: k⟩ R) : Run c ⟨T, M, n, D, .inRegion ops (i :: r) :: k⟩ R := by
  subst hp hq
  refine ⟨fun ρ a w hi => ?_⟩
  rw [get_eq, Array.getElem?_toList] at ho
  refine TW.op ho (wantS_ok hi.tm hw) ?_
  obtain ⟨h1, _⟩ := ev_ok hi.tm hx
  obtain ⟨h2, _⟩ := ev_ok hi.tm hy
  have hti := Tab.ok_look hc.tab hti
  have hte := Tab.ok_look hc.tab hte
  obtain ⟨d, hd1, hd2⟩ := hti.desc
  obtain ⟨inf, rfl, g2, g3, g4⟩ := sh_desc.2.2.2.2.1 te 1 bytes (hd2.trans hsh)
  obtain ⟨inf', z, i1, _, i3, i4⟩ := hte.infos
  rw [g2] at i1
  obtain rfl := Option.some.inj i1
  obtain ⟨w', r1, r2, r3⟩ := run_makeSlice_full (P := c.P) w w.heap.size t te inf z 1 hd1 g2 i3 g3 kx ky m (by omega) (by rw [g4]; exact hfit.1) (by simp only [maxLen]; omega) (Nat.le_refl _)
  have hcs : (madeCells z.cells (m * 1)).toList = SV.concs ρ (List.replicate m (.v zv)) := by
    have : z.cells = #[zv] := by rw [hz] at i4; rw [← i4]
    rw [this, Nat.mul_one, toList_madeCells_one, concs_map]
    simp [SV.conc]
  rw [hcs] at r2
  have hrun : (execOp a.eval o).run c.P w = .ok (.value (.slice (some ⟨w.heap.size, 0, none⟩) m m)) w' := by
    simp only [SV.conc] at h1 h2
    simp [execOp, hop, h1, h2, r1]
  have hscs : SV.scs (· < n) (List.replicate m (.v zv)) := by
    rw [scs_iff]; intro a ha; rw [List.eq_of_mem_replicate ha]; trivial
  obtain ⟨hW', hag⟩ := hi.wi.rowTo (M1 := look M) (fun _ _ h => h) (i := n) (Nat.lt_irrefl n) (xs := List.replicate m (.v zv)) (t := te) (e := 1) (n := m) r3 (fun b hb => by cases hb) (fun g hg => .inr (r2.lt g hg).1) (ownsRow_mono r2 (Nat.zero_le _)) hscs
  refine Oc.value hrun ?_
  have hW2 : WI c.w0 c.L (ρ.bindV n (.slice (some ⟨w.heap.size, 0, none⟩) m m)) (look ((n, .row 1 m (List.replicate m (.v zv)) te) :: M)) (· < n + 1) w' := by
    rw [look_upd]; exact hW'.mono fun q hq => by have hq : q < n ∨ q = n := hq; omega
  have hinv := hi.put (ρ' := ρ.bindV n (.slice (some ⟨w.heap.size, 0, none⟩) m m)) hd hag (Nat.le_succ n) (v := .opq n) (Nat.lt_succ_self n) hW2 (.inRegion ops r :: k)
  rw [conc_bindV r2] at hinv
  exact h.go _ _ w' hinv

/-! ### A nil slice told as an empty row -/
def Nil1 (n : Nat) (v v' : SV) : Prop := v' = v ∨ (v = .v (.slice none 0 0) ∧ v' = .opq n)
def NilO (n : Nat) (o o' : SObj) : Prop := o' = o ∨ ∃ t, o = .cells [.v (.slice none 0 0)] t ∧ o' = .cells [.opq n] t
theorem Run.nilRow {c : Cx} {T T' : List (Nat × SV)} {M M' : List (Nat × SObj)} {n : Nat} {D : List Deferred} {todo : List Item} {R : Ending → World → Prop} (e : Nat) (te : TypeId)
    (hT : ∀ x ∈ T', ∃ v, look T x.1 = some v ∧ Nil1 n v x.2) (hM : ∀ x ∈ M', x = (n, .row e 0 [] te) ∨ ∃ o, look M x.1 = some o ∧ NilO n o x.2)
    (h : Run c ⟨T', M', n + 1, D, todo⟩ R) : Run c ⟨T, M, n, D, todo⟩ R := by
  refine ⟨fun ρ a w hi => ?_⟩
  have ha : Env.agree (· < n) ρ (ρ.bindV n (.slice none 0 0)) := Env.bindV_agree ρ _ (Nat.lt_irrefl n)
  have hn : ((ρ.bindV n (.slice none 0 0)).h n) = (none, 0, 0) := by simp [Env.bindV, hOf]
  have hval : ∀ v v', SV.sc (· < n) v → Nil1 n v v' → v'.conc (ρ.bindV n (.slice none 0 0)) = v.conc ρ ∧ v'.sc (· < n + 1) := by
    rintro v v' hs (rfl | ⟨rfl, rfl⟩)
    · exact ⟨conc_agree ha _ hs, SV.sc_mono (fun q hq => by have hq : q < n := hq; omega) _ hs⟩
    · exact ⟨by simp [SV.conc, hn], Nat.lt_succ_self n⟩
  have hne : ∀ kk o, look M' kk = some o → kk ≠ n → ∃ o0, look M kk = some o0 ∧ NilO n o0 o := by
    intro kk o hk hkn
    rcases hM _ (look_mem hk) with h | h
    · simp only [Prod.mk.injEq] at h; exact absurd h.1 hkn
    · exact h
  have hMn : ∀ o, look M n ≠ some o := fun o ho => Nat.lt_irrefl n (hi.wi.mem n o ho).1
  have heq : ∀ o, look M' n = some o → o = .row e 0 [] te := by
    intro o hk
    rcases hM _ (look_mem hk) with h | ⟨o0, h, _⟩
    · simp only [Prod.mk.injEq] at h; exact h.2
    · exact absurd h (hMn o0)
  have hoccN : ∀ {o : SObj}, o = .row e 0 [] te → ¬ o.occ (ρ.bindV n (.slice none 0 0)) n := by
    rintro o rfl hc
    have hc : ((ρ.bindV n (.slice none 0 0)).h n).1 ≠ none := hc
    rw [hn] at hc; exact hc rfl
  have hocc : ∀ {kk : Nat} {o0 o : SObj}, look M kk = some o0 → NilO n o0 o → o.occ (ρ.bindV n (.slice none 0 0)) kk → o0.occ ρ kk := by
    intro kk o0 o hk hno hc
    rcases hno with rfl | ⟨t, rfl, rfl⟩
    · exact (SObj.occ_agree ha (hi.wi.mem kk _ hk).1).1 hc
    · trivial
  refine h.go (ρ.bindV n (.slice none 0 0)) a w ⟨hi.sz, ?_, hi.df, ⟨?_, ?_, ?_, ?_, hi.wi.keep, hi.wi.size, hi.wi.os, hi.wi.tape, hi.wi.output⟩⟩
  · intro t v ht
    obtain ⟨v0, h1, h2⟩ := hT _ (look_mem ht)
    obtain ⟨g1, g2, g3⟩ := hi.tm t v0 h1
    obtain ⟨k1, k2⟩ := hval v0 v g3 h2
    exact ⟨g1, by rw [k1]; exact g2, k2⟩
  · intro kk o hk
    by_cases e' : kk = n
    · subst e'
      obtain rfl := heq o hk
      exact ⟨Nat.lt_succ_self _, trivial, by simp [Env.bindV], by simp, .inl ⟨hn, rfl⟩⟩
    · obtain ⟨o0, h1, h2⟩ := hne kk o hk e'
      obtain ⟨g1, g2, g3⟩ := hi.wi.mem kk o0 h1
      have g1' : kk < n := g1
      rcases h2 with rfl | ⟨t, rfl, rfl⟩
      · exact ⟨by show kk < n + 1; omega, SObj.sc_mono (fun q (hq : q < n) => Nat.lt_succ_of_lt hq) g2, SObj.holds_agree ha g1 g2 (fun _ => rfl) g3⟩
      · refine ⟨by show kk < n + 1; omega, ⟨Nat.lt_succ_self n, trivial⟩, ?_⟩
        obtain ⟨f1, f2⟩ := g3
        obtain ⟨a1, a2, _⟩ := ha kk g1
        refine ⟨by rw [a2, f1], ?_⟩
        rw [a1, f2]
        simp [SV.concs, SV.conc, hn]
  · intro i j o o' hi' hj' hij hc hc'
    by_cases e1 : i = n
    · subst e1; exact absurd hc (hoccN (heq o hi'))
    · by_cases e2 : j = n
      · subst e2; exact absurd hc' (hoccN (heq o' hj'))
      · obtain ⟨o0, h1, h2⟩ := hne i o hi' e1
        obtain ⟨o1, h3, h4⟩ := hne j o' hj' e2
        rw [(ha i (hi.wi.mem i o0 h1).1).1, (ha j (hi.wi.mem j o1 h3).1).1]
        exact hi.wi.dist i j o0 o1 h1 h3 hij (hocc h1 h2 hc) (hocc h3 h4 hc')
  · intro i o hi' hc
    by_cases e1 : i = n
    · subst e1; exact absurd hc (hoccN (heq o hi'))
    · obtain ⟨o0, h1, h2⟩ := hne i o hi' e1
      rw [(ha i (hi.wi.mem i o0 h1).1).1]
      exact hi.wi.new i o0 h1 (hocc h1 h2 hc)
  · intro p hp
    obtain ⟨h1, h2⟩ := hi.wi.lid p hp
    have h1' : p.1 < n := h1
    exact ⟨by show p.1 < n + 1; omega, by rw [(ha p.1 h1).1, h2]⟩
end Go.Sx
