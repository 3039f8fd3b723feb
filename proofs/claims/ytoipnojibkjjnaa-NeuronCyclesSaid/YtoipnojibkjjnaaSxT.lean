/-
  A small symbolic executor over the model (part T): a region whose order is open, in several parts: between two parts an operation that waits for all ahead of it, and for which all behind it wait.
  No condition: these are definitions and laws that hold of every program.
-/
import Derived.Test.YtoipnojibkjjnaaSxR
namespace Go.Sx

/-- A drawn order of the operations from number m on, where those ahead of it have been done. -/
def LinGo (ops : Array Oper) (m : Nat) (l : List Nat) : Prop :=
  ∃ fuel t listed, l = Region.linearise.go .any ops fuel t listed [] ∧ listed.size = ops.size ∧ (∀ i, i < ops.size → (listed.getD i true = false ↔ m ≤ i)) ∧ Down ops listed ∧ ops.size - m ≤ fuel

/-- Whatever order is drawn: the operations 'l' (those from number m0 on, ahead of number m, in the order of the text) end as they do in the order of the text. -/
theorem gameP {c : Cx} (hc : c.ok) {ops : Array Oper} {n0 m0 m : Nat} {T' : Tm} {M' : Mem} {D : List Deferred} {R : Ending → World → Prop} {k : List Item} (hm : m ≤ ops.size)
    (hlow : ∀ i o e, ops[i]? = some o → e ∈ o.after → Region.binds .any e = true → e.on < i) (htail : ∀ i j, m ≤ i → i < ops.size → m0 ≤ j → j < m → TP ops j i)
    (hfin : ∀ l1, LinGo ops m l1 → ∀ ρ a w, a.tmps.size = c.fn.ntmps → TmOk ρ T' (· < n0 + ops.size) a → a.defers = D → WI c.w0 c.L ρ M' (· < n0 + ops.size) w → TW c.P c.f c.rr a (.inRegion ops l1 :: k) w R) :
    ∀ (fuel : Nat) (l : List (Tr × Option Eff)) (t : Nat) (listed : Array Bool) (T : Tm) (M : Mem) (S : Nat → Prop) (ρ : Env) (a : Act) (w : World),
      listed.size = ops.size → (∀ i, i < ops.size → (listed.getD i true = false ↔ (∃ x ∈ l, x.1.i = i) ∨ m ≤ i)) → Down ops listed → l.length + (ops.size - m) ≤ fuel →
      l.Pairwise (fun a b => a.1.i < b.1.i) → (∀ x ∈ l, m0 ≤ x.1.i ∧ x.1.i < m) → l.Pairwise (fun a b => TP ops a.1.i b.1.i ∨ Apart a.1 b.1) → Runs c ops.toList n0 l T M T' M' →
      a.tmps.size = c.fn.ntmps → TmOk ρ T S a → a.defers = D → WI c.w0 c.L ρ M S w → (∀ x, S x → x < n0 + ops.size) → (∀ x ∈ l, ¬ S (n0 + x.1.i)) →
      TW c.P c.f c.rr a (.inRegion ops (Region.linearise.go .any ops fuel t listed []) :: k) w R := by
  intro fuel
  induction fuel with
  | zero =>
    intro l t listed T M S ρ a w hls hU hD hcount hsort hlt hap hrun hsz hT hdf hW hS hfresh
    have hl : l = [] := List.length_eq_zero_iff.1 (by omega)
    subst hl
    obtain ⟨rfl, rfl⟩ := hrun
    exact hfin _ ⟨0, t, listed, rfl, hls, fun i hi => by rw [hU i hi]; simp, hD, by simpa using hcount⟩ ρ a w hsz (hT.mono hS) hdf (hW.mono hS)
  | succ fuel ih =>
    intro l t listed T M S ρ a w hls hU hD hcount hsort hlt hap hrun hsz hT hdf hW hS hfresh
    cases hl : l with
    | nil =>
      subst hl
      obtain ⟨rfl, rfl⟩ := hrun
      exact hfin _ ⟨fuel + 1, t, listed, rfl, hls, fun i hi => by rw [hU i hi]; simp, hD, by simpa using hcount⟩ ρ a w hsz (hT.mono hS) hdf (hW.mono hS)
    | cons x0 l0 =>
      have hx0 : x0 ∈ l := by rw [hl]; simp
      have hx0m := (hlt x0 hx0).2
      have hx0m0 := (hlt x0 hx0).1
      have hx0lt : x0.1.i < ops.size := by omega
      have hx0un : listed.getD x0.1.i true = false := (hU _ hx0lt).2 (.inl ⟨x0, hx0, rfl⟩)
      have hready : x0.1.i ∈ Region.ready .any ops listed := by
        refine mem_ready.2 ⟨hx0lt, hx0un, fun o e ho he hb => ?_⟩
        have hlow' := hlow _ o e ho he hb
        cases hcx : listed.getD e.on false with
        | true => rfl
        | false =>
          have hlt' : e.on < listed.size := by omega
          have : listed.getD e.on true = false := by
            simp [Array.getD_eq_getD_getElem?, Array.getElem?_eq_getElem hlt'] at hcx ⊢; exact hcx
          rcases (hU e.on (by omega)).1 this with ⟨y, hy, hye⟩ | hge
          · rw [hl] at hy hsort
            rcases List.mem_cons.1 hy with rfl | hy
            · omega
            · have := (List.pairwise_cons.1 hsort).1 y hy; omega
          · omega
      obtain ⟨i, hi, hir⟩ := pick_ready (ops := ops) (listed := listed) t (by intro h; rw [h] at hready; cases hready)
      obtain ⟨h1, h2, h3⟩ := mem_ready.1 hir
      have him : ¬ m ≤ i := by
        intro hge
        have := TP.listed hD (htail i x0.1.i hge h1 hx0m0 hx0m) h3
        have := (getD_ft hx0un).2
        simp_all
      obtain ⟨⟨b, x⟩, hbl, hbi⟩ : ∃ y ∈ l, y.1.i = i := by
        rcases (hU i h1).1 h2 with h | h
        · exact h
        · exact absurd h him
      simp only at hbi
      subst hbi
      obtain ⟨p, q, hpq⟩ := List.append_of_mem hbl
      rw [hpq] at hrun hap hsort
      have hapart : ∀ y ∈ p, Apart y.1 b := by
        intro y hy
        rcases (List.pairwise_append.1 hap).2.2 y hy (b, x) (by simp) with htp | h
        · exfalso
          have e1 := TP.listed hD htp h3
          have hyl : y ∈ l := by rw [hpq]; simp [hy]
          have e2 := (getD_ft ((hU y.1.i (by have := (hlt y hyl).2; omega)).2 (.inl ⟨y, hyl, rfl⟩))).2
          simp_all
        · exact h
      obtain ⟨hstep, hrest⟩ := hrun.front hc.pf hapart
      have hbm : b.i < m := (hlt (b, x) hbl).2
      have hbS : ¬ S (n0 + b.i) := hfresh (b, x) hbl
      have hsort' : (p ++ q).Pairwise (fun a b => a.1.i < b.1.i) := by
        rw [List.pairwise_append] at hsort ⊢
        exact ⟨hsort.1, (List.pairwise_cons.1 hsort.2.1).2, fun y hy z hz => hsort.2.2 y hy z (by simp [hz])⟩
      have hap' : (p ++ q).Pairwise (fun a b => TP ops a.1.i b.1.i ∨ Apart a.1 b.1) := by
        rw [List.pairwise_append] at hap ⊢
        exact ⟨hap.1, (List.pairwise_cons.1 hap.2.1).2, fun y hy z hz => hap.2.2 y hy z (by simp [hz])⟩
      have hne : ∀ y ∈ p ++ q, y.1.i ≠ b.i := by
        intro y hy e
        rw [List.pairwise_append] at hsort
        rcases List.mem_append.1 hy with hy | hy
        · have := hsort.2.2 y hy (b, x) (by simp); simp only at this; omega
        · have := (List.pairwise_cons.1 hsort.2.1).1 y hy; simp only at this; omega
      have hmem : ∀ y, y ∈ l ↔ y = (b, x) ∨ y ∈ p ++ q := by intro y; rw [hpq]; simp; constructor <;> (rintro (h | h | h) <;> simp [h])
      have hU' : ∀ j, j < ops.size → ((listed.setIfInBounds b.i true).getD j true = false ↔ (∃ y ∈ p ++ q, y.1.i = j) ∨ m ≤ j) := by
        intro j hj
        rw [getD_set]
        constructor
        · intro h
          split at h
          · cases h
          · rename_i hnej
            rcases (hU j hj).1 h with ⟨y, hy, hyj⟩ | h
            · rcases (hmem y).1 hy with rfl | hy
              · exact absurd ⟨hyj, by omega⟩ hnej
              · exact .inl ⟨y, hy, hyj⟩
            · exact .inr h
        · rintro (⟨y, hy, hyj⟩ | h)
          · rw [if_neg (fun hh => hne y hy (hyj.trans hh.1.symm))]
            exact (hU j hj).2 (.inl ⟨y, (hmem y).2 (.inr hy), hyj⟩)
          · rw [if_neg (by omega)]
            exact (hU j hj).2 (.inr h)
      have hlt' : ∀ y ∈ p ++ q, m0 ≤ y.1.i ∧ y.1.i < m := fun y hy => hlt y ((hmem y).2 (.inr hy))
      have hlen : (p ++ q).length + (ops.size - m) ≤ fuel := by
        have : l.length = (p ++ q).length + 1 := by rw [hpq]; simp; omega
        omega
      rw [go_step, hi]
      simp only
      obtain ⟨o, s1, s2, s3, s4, s5⟩ := hstep
      rw [get_eq, Array.getElem?_toList] at s1
      cases x with
      | none =>
        refine TW.pass s1 (wantS_ok hT s5.1) ?_
        refine ih (p ++ q) _ _ _ _ S ρ _ w (by simpa using hls) hU' (hD.set h3) hlen hsort' hlt' hap' hrest (by rw [Act.put_size]; exact hsz) ?_ (by rw [Act.put_defers]; exact hdf) hW hS (fun y hy => hfresh y ((hmem y).2 (.inr hy)))
        rw [s3]
        exact hT.updD hsz (Env.agree.refl S ρ) (fun _ h => h) s2 (v := .v undef) trivial
      | some e =>
        obtain ⟨g1, g2, g3, g4, g5⟩ := s5
        refine TW.op s1 (wantS_ok hT g1) ?_
        refine (opF_ok hc.tab hc.pf hT hW hbS g2 g3).mono fun v w' hp => ?_
        obtain ⟨ρ', r1, rfl, r3, r4⟩ := hp
        have hdom : ∀ j, S j → e.dom S (n0 + b.i) j := fun j hj => by cases e <;> first | exact hj | exact .inl hj
        have hdom' : ∀ j, e.dom S (n0 + b.i) j → S j ∨ j = n0 + b.i := fun j hj => by cases e <;> first | exact .inl hj | exact hj
        refine ih (p ++ q) _ _ _ _ (e.dom S (n0 + b.i)) ρ' _ w' (by simpa using hls) hU' (hD.set h3) hlen hsort' hlt' hap' hrest (by rw [Act.put_size]; exact hsz) ?_ (by rw [Act.put_defers]; exact hdf) r4 ?_ ?_
        · rw [s3]
          exact hT.updD hsz r1 hdom s2 r3
        · intro j hj
          rcases hdom' j hj with hj | rfl
          · exact hS j hj
          · omega
        · intro y hy hj
          rcases hdom' _ hj with hj | hj
          · exact hfresh y ((hmem y).2 (.inr hy)) hj
          · exact hne y hy (by omega)

def cutB (mk : List Nat) (m0 m : Nat) : Nat → Bool
  | 0 => true
  | k + 1 => (Nat.blt k m || (List.range m).all fun j => Nat.blt j m0 || (getD0 mk k).testBit j) && cutB mk m0 m k
theorem cutB_ok {ops : Array Oper} {mk : List Nat} (hmk : ∀ k j, (getD0 mk k).testBit j = true → TP ops j k) {m0 m : Nat} : ∀ {n : Nat}, cutB mk m0 m n = true → ∀ i j, m ≤ i → i < n → m0 ≤ j → j < m → TP ops j i
  | 0, _, i, j, _, h, _, _ => by omega
  | k + 1, h, i, j, h1, h2, h3, h4 => by
    unfold cutB at h
    simp only [Bool.and_eq_true, Bool.or_eq_true] at h
    rcases Nat.lt_or_ge i k with hlt | hge
    · exact cutB_ok hmk h.2 i j h1 hlt h3 h4
    · obtain rfl : i = k := by omega
      rcases h.1 with hb | hb
      · have : i < m := by simpa [Nat.blt_eq] using hb
        omega
      · have := List.all_eq_true.1 hb j (List.mem_range.2 h4)
        simp only [Bool.or_eq_true] at this
        rcases this with h5 | h5
        · have : j < m0 := by simpa [Nat.blt_eq] using h5
          omega
        · exact hmk _ _ h5
def chkP (ops : List Oper) (m0 m : Nat) (l : List Tr) : Bool :=
  lowB 0 ops && Nat.ble m (lenL ops) && (let mk := masks ops []; cutB mk m0 m (lenL ops) && pairsB mk l)

/-- A part of such a region. -/
theorem Run.drawP {c : Cx} (hc : c.ok) {T : List (Nat × SV)} {M : List (Nat × SObj)} {n : Nat} {D : List Deferred} {ops : Array Oper} {l0 : List Nat} {k : List Item} {R : Ending → World → Prop} (m0 m : Nat) (hl0 : LinGo ops m0 l0) (hmm : m0 ≤ m)
    (h : drawK c ops.toList n False (fun T M l => chkP ops.toList m0 m l = true ∧ ∀ l1, LinGo ops m l1 → Run c ⟨T, M, n + lenL ops.toList, D, .inRegion ops l1 :: k⟩ R) (upto m0 (m - m0)) T M []) :
    Run c ⟨T, M, n, D, .inRegion ops l0 :: k⟩ R := by
  rcases drawK_ok _ _ _ _ h with h | ⟨l, T', M', h1, h2, h3, h4⟩
  · exact h.elim
  simp only [List.nil_append] at h3
  unfold chkP at h3
  simp only [Bool.and_eq_true] at h3
  obtain ⟨⟨c1, c2⟩, c3, c4⟩ := h3
  rw [lenL_eq, Array.length_toList] at c2 c3 h4
  have hmle := Nat.le_of_ble_eq_true c2
  have hmk : ∀ k j, (getD0 (masks ops.toList []) k).testBit j = true → TP ops j k := masks_ok ops.toList [] (by simp) (by simp [getD0])
  have hidx : l.map (·.1.i) = List.range' m0 (m - m0) := by rw [h1, upto_eq]
  have hlm : ∀ x ∈ l, m0 ≤ x.1.i ∧ x.1.i < m := by
    intro x hx
    have : x.1.i ∈ l.map (·.1.i) := List.mem_map.2 ⟨x, hx, rfl⟩
    rw [hidx] at this
    have := List.mem_range'_1.1 this
    omega
  have hsort : l.Pairwise (fun a b => a.1.i < b.1.i) := by
    have : (l.map (·.1.i)).Pairwise (· < ·) := by rw [hidx]; exact List.pairwise_lt_range'
    exact List.pairwise_map.1 this
  have hpair : l.Pairwise (fun a b => TP ops a.1.i b.1.i ∨ Apart a.1 b.1) := List.pairwise_map.1 (pairsB_ok hmk c4)
  obtain ⟨fuel, t, listed, rfl, g1, g2, g3, g4⟩ := hl0
  refine ⟨fun ρ a w hi => ?_⟩
  have hfin : ∀ l1, LinGo ops m l1 → ∀ ρ a w, a.tmps.size = c.fn.ntmps → TmOk ρ (look T') (· < n + ops.size) a → a.defers = D → WI c.w0 c.L ρ (look M') (· < n + ops.size) w → TW c.P c.f c.rr a (.inRegion ops l1 :: k) w R :=
    fun l1 hl1 ρ a w q1 q2 q3 q4 => (h4 l1 hl1).go ρ a w ⟨q1, q2, q3, q4⟩
  refine gameP hc hmle (lowB_ok ops.toList 0 c1 (by simp) · · · (Nat.zero_le _)) (fun i j => cutB_ok hmk c3 i j) hfin fuel l t listed _ _ _ ρ a w g1 ?_ g3 ?_ hsort hlm hpair h2 hi.sz hi.tm hi.df hi.wi (fun x hx => ?_) (fun x _ => ?_)
  · intro i hi'
    rw [g2 i hi']
    constructor
    · intro hge
      rcases Nat.lt_or_ge i m with hlt | hge'
      · left
        have : i ∈ l.map (·.1.i) := by rw [hidx]; exact List.mem_range'_1.2 (by omega)
        obtain ⟨x, hx, hxi⟩ := List.mem_map.1 this
        exact ⟨x, hx, hxi⟩
      · exact .inr hge'
    · rintro (⟨x, hx, hxi⟩ | hge)
      · have := hlm x hx; omega
      · omega
  · have : l.length = m - m0 := by have := congrArg List.length hidx; simpa using this
    omega
  · have : x < n := hx
    show x < n + ops.size
    omega
  · intro hlt
    have : n + x.1.i < n := hlt
    omega

/-- The first part. -/
theorem Run.draw0 {c : Cx} (hc : c.ok) {T : List (Nat × SV)} {M : List (Nat × SObj)} {n : Nat} {D : List Deferred} {id : Nat} {ops : Array Oper} {k : List Item} {R : Ending → World → Prop}
    (h : ∀ l, LinGo ops 0 l → Run c ⟨T, M, n, D, .inRegion ops l :: k⟩ R) : Run c ⟨T, M, n, D, .code (.region id ops true) :: k⟩ R := by
  refine ⟨fun ρ a w hi => ?_⟩
  refine TW.next (todo' := .inRegion ops (Region.schedule (c.P.follows .mixedOrders) ops (w.tape w.drawn (.order c.f id))) :: k) (a' := a) (w' := w.drew) (fun cs => fstep_region_draw) ?_
  have hsch : Region.schedule (c.P.follows .mixedOrders) ops (w.tape w.drawn (.order c.f id)) = Region.linearise.go .any ops ops.size (w.tape w.drawn (.order c.f id)) (Array.replicate ops.size false) [] := by
    simp only [Region.schedule, hc.mixed, Bool.true_or, if_true]; rfl
  rw [hsch]
  refine (h _ ⟨ops.size, _, _, rfl, by simp, fun i hi' => ?_, ?_, by omega⟩).go ρ a w.drew ⟨hi.sz, hi.tm, hi.df, hi.wi.ext (Ext.drew w)⟩
  · have e : (Array.replicate ops.size false).getD i true = false := by simp [Array.getD_eq_getD_getElem?, hi']
    simp [e]
  · intro i hi'
    simp [Array.getD_eq_getD_getElem?, Array.getElem?_replicate] at hi'
    split at hi' <;> simp_all

/-- An operation that waits for all ahead of it, and for which all behind it wait. -/
theorem LinGo.one {ops : Array Oper} {m : Nat} {l : List Nat} (h : LinGo ops m l) (hm : m < ops.size) (hlow : lowB 0 ops.toList = true) (hcut : cutB (masks ops.toList []) m (m + 1) ops.size = true) : ∃ l', l = m :: l' ∧ LinGo ops (m + 1) l' := by
  obtain ⟨fuel, t, listed, rfl, hs, hU, hD, hf⟩ := h
  have hmk : ∀ k j, (getD0 (masks ops.toList []) k).testBit j = true → TP ops j k := masks_ok ops.toList [] (by simp) (by simp [getD0])
  have hlow' := lowB_ok (ops := ops) ops.toList 0 hlow (by simp)
  have hTP := fun i hi hi2 => cutB_ok hmk hcut i m hi hi2 (Nat.le_refl m) (Nat.lt_succ_self m)
  cases fuel with
  | zero => omega
  | succ fuel =>
    have hmready : m ∈ Region.ready .any ops listed := by
      refine mem_ready.2 ⟨hm, (hU m hm).2 (Nat.le_refl _), fun o e ho he hb => ?_⟩
      have hlt := hlow' m o e (Nat.zero_le _) ho he hb
      cases hc : listed.getD e.on false with
      | true => rfl
      | false =>
        have hlt' : e.on < listed.size := by omega
        have : listed.getD e.on true = false := by
          simp [Array.getD_eq_getD_getElem?, Array.getElem?_eq_getElem hlt'] at hc ⊢; exact hc
        have := (hU e.on (by omega)).1 this
        omega
    obtain ⟨i, hi, hir⟩ := pick_ready (ops := ops) (listed := listed) t (by intro h; rw [h] at hmready; cases hmready)
    obtain ⟨h1, h2, h3⟩ := mem_ready.1 hir
    have him : i = m := by
      have hle := (hU i h1).1 h2
      rcases Nat.lt_or_ge m i with hlt | hge
      · have := TP.listed hD (hTP i hlt h1) h3
        have := (getD_ft ((hU m hm).2 (Nat.le_refl _))).2
        simp_all
      · omega
    subst him
    refine ⟨_, by rw [go_step, hi], fuel, _, _, rfl, by simpa using hs, fun j hj => ?_, hD.set h3, by omega⟩
    rw [getD_set]
    constructor
    · intro h
      split at h
      · cases h
      · rename_i hne
        have := (hU j hj).1 h
        have : i ≠ j := fun e => hne ⟨e, by omega⟩
        omega
    · intro h
      rw [if_neg (by omega)]
      exact (hU j hj).2 (by omega)
/-- The rest's order is forced. -/
theorem LinGo.rest {ops : Array Oper} {m : Nat} {l : List Nat} (h : LinGo ops m l) (hm : m ≤ ops.size) (hlow : lowB 0 ops.toList = true) (htail : tailB (masks ops.toList []) m ops.size = true) : l = upto m (ops.size - m) := by
  obtain ⟨fuel, t, listed, rfl, hs, hU, hD, hf⟩ := h
  have hmk : ∀ k j, (getD0 (masks ops.toList []) k).testBit j = true → TP ops j k := masks_ok ops.toList [] (by simp) (by simp [getD0])
  exact go_tail (ops.size - m) m fuel t listed (by omega) hf hs hU hD (fun i j => tailB_ok hmk htail i j) (fun i o e => lowB_ok ops.toList 0 hlow (by simp) i o e (Nat.zero_le _))
end Go.Sx
