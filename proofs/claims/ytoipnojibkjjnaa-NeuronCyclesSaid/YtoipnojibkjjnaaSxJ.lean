/-
  A small symbolic executor over the model (part J): the run of a state, regions whose order is open among them.
  No condition: these are definitions and laws that hold of every program.
-/
import Derived.Test.YtoipnojibkjjnaaSxI
namespace Go.Sx

/-! ### The test that a region may be run in the order of the text -/
def getD0 : List Nat → Nat → Nat
  | [], _ => 0
  | a :: _, 0 => a
  | _ :: l, n + 1 => getD0 l n
def edgeMask (acc : List Nat) : List Edge → Nat
  | [] => 0
  | e :: l => match Region.binds .any e with
    | true => Nat.lor (Nat.lor (2 ^ e.on) (getD0 acc e.on)) (edgeMask acc l)
    | false => edgeMask acc l
def masks : List Oper → List Nat → List Nat
  | [], acc => acc
  | o :: l, acc => masks l (acc ++ [edgeMask acc o.after.toList])
theorem getD0_eq : ∀ (l : List Nat) (i : Nat), getD0 l i = l.getD i 0
  | [], _ => by simp [getD0]
  | _ :: _, 0 => by simp [getD0]
  | _ :: l, i + 1 => by simp [getD0, getD0_eq l i]
theorem edgeMask_ok {ops : Array Oper} {i : Nat} {o : Oper} (ho : ops[i]? = some o) {acc : List Nat} (hacc : ∀ k j, (getD0 acc k).testBit j = true → TP ops j k) : ∀ (l : List Edge), (∀ e ∈ l, e ∈ o.after) → ∀ j, (edgeMask acc l).testBit j = true → TP ops j i
  | [], _, j, h => by simp [edgeMask] at h
  | e :: l, hl, j, h => by
    unfold edgeMask at h
    split at h
    · rename_i hb
      change ((2 ^ e.on ||| getD0 acc e.on) ||| edgeMask acc l).testBit j = true at h
      rw [Nat.testBit_or, Nat.testBit_or] at h
      simp only [Bool.or_eq_true] at h
      rcases h with (h | h) | h
      · have : e.on = j := by
          by_cases hc : e.on = j
          · exact hc
          · rw [Nat.testBit_two_pow_of_ne hc] at h; cases h
        exact .one ho (hl e (by simp)) hb this
      · exact .more (hacc _ _ h) ho (hl e (by simp)) hb rfl
      · exact edgeMask_ok ho hacc l (fun e' he' => hl e' (by simp [he'])) j h
    · exact edgeMask_ok ho hacc l (fun e' he' => hl e' (by simp [he'])) j h
theorem masks_ok {ops : Array Oper} : ∀ (l : List Oper) (acc : List Nat), (∀ j, l[j]? = ops[acc.length + j]?) → (∀ k j, (getD0 acc k).testBit j = true → TP ops j k) → ∀ k j, (getD0 (masks l acc) k).testBit j = true → TP ops j k
  | [], acc, _, hacc => hacc
  | o :: l, acc, hl, hacc => by
    have ho : ops[acc.length]? = some o := by have := hl 0; simpa using this.symm
    refine masks_ok l _ (fun j => ?_) ?_
    · have := hl (j + 1); simp at this ⊢; rw [this]; congr 1; omega
    · intro k j h
      rw [getD0_eq] at h
      rcases Nat.lt_trichotomy k acc.length with hk | hk | hk
      · refine hacc k j ?_
        rw [getD0_eq]
        rw [List.getD_eq_getElem?_getD, List.getElem?_append_left hk, ← List.getD_eq_getElem?_getD] at h
        exact h
      · subst hk
        rw [List.getD_eq_getElem?_getD, List.getElem?_append_right (Nat.le_refl _)] at h
        simp at h
        exact edgeMask_ok ho hacc o.after.toList (fun e he => by simpa using he) j h
      · rw [List.getD_eq_getElem?_getD, List.getElem?_eq_none (by simp; omega)] at h
        simp at h

def lowE (i : Nat) : List Edge → Bool
  | [] => true
  | e :: l => match Region.binds .any e with
    | true => match Nat.blt e.on i with
      | true => lowE i l
      | false => false
    | false => lowE i l
def lowB : Nat → List Oper → Bool
  | _, [] => true
  | i, o :: l => match lowE i o.after.toList with
    | true => lowB (i + 1) l
    | false => false
theorem lowE_ok {i : Nat} : ∀ {l : List Edge}, lowE i l = true → ∀ e ∈ l, Region.binds .any e = true → e.on < i
  | [], _, e, he, _ => by cases he
  | x :: l, h, e, he, hb => by
    unfold lowE at h
    split at h
    · split at h
      · rename_i hx
        rcases List.mem_cons.1 he with rfl | he
        · simpa [Nat.blt_eq] using hx
        · exact lowE_ok h e he hb
      · cases h
    · rename_i hx
      rcases List.mem_cons.1 he with rfl | he
      · rw [hb] at hx; cases hx
      · exact lowE_ok h e he hb
theorem lowB_ok {ops : Array Oper} : ∀ (l : List Oper) (i : Nat), lowB i l = true → (∀ j, l[j]? = ops[i + j]?) → ∀ k o e, i ≤ k → ops[k]? = some o → e ∈ o.after → Region.binds .any e = true → e.on < k
  | [], i, _, hl, k, o, e, hk, ho, _, _ => by have := hl (k - i); rw [show i + (k - i) = k by omega, ho] at this; simp at this
  | x :: l, i, h, hl, k, o, e, hk, ho, he, hb => by
    unfold lowB at h
    split at h
    · rename_i hx
      rcases Nat.eq_or_lt_of_le hk with rfl | hk
      · have := hl 0
        rw [Nat.add_zero, ho] at this
        simp only [List.getElem?_cons_zero, Option.some.injEq] at this
        subst this
        exact lowE_ok hx e (by simpa using he) hb
      · exact lowB_ok l (i + 1) h (fun j => by have := hl (j + 1); simp at this; rw [this]; congr 1; omega) k o e hk ho he hb
    · cases h

def memB (t : Nat) : List Nat → Bool
  | [] => false
  | a :: l => match Nat.beq a t with
    | true => true
    | false => memB t l
theorem memB_false {t : Nat} : ∀ {l : List Nat}, memB t l = false → t ∉ l
  | [], _ => by simp
  | a :: l, h => by
    unfold memB at h
    split at h
    · cases h
    · rename_i hb
      intro hc
      rcases List.mem_cons.1 hc with rfl | hc
      · simp at hb
      · exact memB_false h hc
def freeB (t : Option Nat) (l : List Nat) : Bool :=
  match t with
  | some t => !memB t l
  | none => true
def distB : List Nat → List Nat → Bool
  | [], _ => true
  | a :: l, r => match memB a r with
    | true => false
    | false => distB l r
theorem distB_ok : ∀ {l r : List Nat}, distB l r = true → ∀ k ∈ l, k ∉ r
  | [], _, _, k, hk => by cases hk
  | a :: l, r, h, k, hk => by
    unfold distB at h
    split at h
    · cases h
    · rename_i hb
      rcases List.mem_cons.1 hk with rfl | hk
      · exact memB_false hb
      · exact distB_ok h k hk
def apartB (a b : Tr) : Bool := freeB a.dst b.dst.toList && freeB a.dst b.reads && freeB b.dst a.reads && distB a.wr b.foot && distB b.wr a.foot && distB a.wr b.wr
theorem apartB_ok {a b : Tr} (h : apartB a b = true) : Apart a b := by
  unfold apartB at h
  simp only [Bool.and_eq_true] at h
  obtain ⟨⟨⟨⟨⟨h1, h2⟩, h3⟩, h4⟩, h5⟩, h6⟩ := h
  have fr : ∀ {t : Option Nat} {l : List Nat}, freeB t l = true → ∀ x, t = some x → x ∉ l := by
    intro t l ht x hx
    subst hx
    exact memB_false (by simpa [freeB] using ht)
  exact ⟨fun t ht hb => fr h1 t ht (by rw [hb]; simp), fr h2, fr h3, distB_ok h4, distB_ok h5, distB_ok h6⟩
def pairsB (mk : List Nat) : List Tr → Bool
  | [] => true
  | a :: l => (l.all fun b => (getD0 mk b.i).testBit a.i || apartB a b) && pairsB mk l
theorem pairsB_ok {ops : Array Oper} {mk : List Nat} (hmk : ∀ k j, (getD0 mk k).testBit j = true → TP ops j k) : ∀ {l : List Tr}, pairsB mk l = true → l.Pairwise (fun a b => TP ops a.i b.i ∨ Apart a b)
  | [], _ => .nil
  | a :: l, h => by
    unfold pairsB at h
    simp only [Bool.and_eq_true] at h
    refine .cons (fun b hb => ?_) (pairsB_ok hmk h.2)
    have := List.all_eq_true.1 h.1 b hb
    simp only [Bool.or_eq_true] at this
    rcases this with h | h
    · exact .inl (hmk _ _ h)
    · exact .inr (apartB_ok h)
def tailB (mk : List Nat) (m : Nat) : Nat → Bool
  | 0 => true
  | k + 1 => (Nat.blt k m || (List.range k).all fun j => (getD0 mk k).testBit j) && tailB mk m k
theorem tailB_ok {ops : Array Oper} {mk : List Nat} (hmk : ∀ k j, (getD0 mk k).testBit j = true → TP ops j k) {m : Nat} : ∀ {n : Nat}, tailB mk m n = true → ∀ i j, m ≤ i → i < n → j < i → TP ops j i
  | 0, _, i, j, _, h, _ => by omega
  | k + 1, h, i, j, h1, h2, h3 => by
    unfold tailB at h
    simp only [Bool.and_eq_true, Bool.or_eq_true] at h
    rcases Nat.lt_or_ge i k with hlt | hge
    · exact tailB_ok hmk h.2 i j h1 hlt h3
    · obtain rfl : i = k := by omega
      rcases h.1 with hb | hb
      · have : i < m := by simpa [Nat.blt_eq] using hb
        omega
      · exact hmk _ _ (List.all_eq_true.1 hb j (List.mem_range.2 h3))
def chkB (ops : List Oper) (m : Nat) (l : List Tr) : Bool :=
  lowB 0 ops && Nat.ble m (lenL ops) && (let mk := masks ops []; tailB mk m (lenL ops) && pairsB mk l)

/-! ### The run of the operations ahead of number m -/
def drawK (c : Cx) (ops : List Oper) (n0 : Nat) (stop : Prop) (K : List (Nat × SV) → List (Nat × SObj) → List Tr → Prop) : List Nat → List (Nat × SV) → List (Nat × SObj) → List Tr → Prop
  | [], T, M, acc => K T M acc
  | i :: r, T, M, acc => match get ops i with
    | some o => match okD c.fn.ntmps o.dst with
      | true => wantK ops (look T) o.guard stop fun b => match b with
        | true => match opF c.tab c.pf (look T) (look M) (n0 + i) o.op with
          | some e => match e with
            | .val ob v => match ob with
              | some p => p ∧ putK T o.dst v fun T' => drawK c ops n0 stop K r T' M (acc ++ [⟨i, o.dst, readsOf ops o, footOf (look T) o.op, []⟩])
              | none => putK T o.dst v fun T' => drawK c ops n0 stop K r T' M (acc ++ [⟨i, o.dst, readsOf ops o, footOf (look T) o.op, []⟩])
            | .new v ob => forceO ob fun ob => putK T o.dst v fun T' => drawK c ops n0 stop K r T' ((n0 + i, ob) :: M) (acc ++ [⟨i, o.dst, readsOf ops o, footOf (look T) o.op, [n0 + i]⟩])
            | .wr j ob => forceO ob fun ob => putK T o.dst (.v undef) fun T' => drawK c ops n0 stop K r T' ((j, ob) :: M) (acc ++ [⟨i, o.dst, readsOf ops o, footOf (look T) o.op, [j]⟩])
            | .call _ _ bs v => putK T o.dst v fun T' => drawK c ops n0 stop K r T' M (acc ++ [⟨i, o.dst, readsOf ops o, bs ++ footOf (look T) o.op, []⟩])
          | none => stop
        | false => putK T o.dst (.v undef) fun T' => drawK c ops n0 stop K r T' M (acc ++ [⟨i, o.dst, readsOf ops o, [], []⟩])
      | false => stop
    | none => stop

theorem drawK_ok {c : Cx} {ops : List Oper} {n0 : Nat} {stop : Prop} {K : List (Nat × SV) → List (Nat × SObj) → List Tr → Prop} : ∀ (is : List Nat) (T : List (Nat × SV)) (M : List (Nat × SObj)) (acc : List Tr), drawK c ops n0 stop K is T M acc →
    stop ∨ ∃ (l : List (Tr × Option Eff)) (T' : List (Nat × SV)) (M' : List (Nat × SObj)), l.map (·.1.i) = is ∧ Runs c ops n0 l (look T) (look M) (look T') (look M') ∧ K T' M' (acc ++ l.map (·.1))
  | [], T, M, acc, h => .inr ⟨[], T, M, rfl, ⟨rfl, rfl⟩, by simpa [drawK] using h⟩
  | i :: r, T, M, acc, h => by
    unfold drawK at h
    split at h
    case h_2 => exact .inl h
    rename_i o ho
    split at h
    case h_2 => exact .inl h
    rename_i hd
    rcases wantK_elim h with h | ⟨b, hb, h⟩
    · exact .inl h
    have fin : ∀ (x : Option Eff) (tr : Tr) (T1 : List (Nat × SV)) (M1 : List (Nat × SObj)), StepIs c ops n0 tr x (look T) (look M) → tr.i = i → look T1 = actT x tr.dst (look T) → look M1 = actM x (n0 + i) (look M) →
        drawK c ops n0 stop K r T1 M1 (acc ++ [tr]) → stop ∨ ∃ (l : List (Tr × Option Eff)) (T' : List (Nat × SV)) (M' : List (Nat × SObj)), l.map (·.1.i) = i :: r ∧ Runs c ops n0 l (look T) (look M) (look T') (look M') ∧ K T' M' (acc ++ l.map (·.1)) := by
      intro x tr T1 M1 hs hti hT hM hk
      rcases drawK_ok r T1 M1 _ hk with h | ⟨l, T', M', h1, h2, h3⟩
      · exact .inl h
      · refine .inr ⟨(tr, x) :: l, T', M', by simp [hti, h1], ⟨hs, ?_⟩, by simpa using h3⟩
        rw [hti, ← hT, ← hM]; exact h2
    cases b with
    | false =>
      simp only [putK_eq] at h
      exact fin none ⟨i, o.dst, readsOf ops o, [], []⟩ _ _ ⟨o, ho, hd, rfl, rfl, hb, rfl, rfl⟩ rfl (look_putS _ _ _) rfl h
    | true =>
      simp only at h
      split at h
      case h_2 => exact .inl h
      rename_i e he
      cases e with
      | val ob v =>
        cases ob with
        | none =>
          simp only [putK_eq] at h
          exact fin (some (.val none v)) ⟨i, o.dst, readsOf ops o, footOf (look T) o.op, []⟩ _ _ ⟨o, ho, hd, rfl, rfl, hb, he, trivial, rfl, rfl⟩ rfl (look_putS _ _ _) rfl h
        | some p =>
          simp only [putK_eq] at h
          exact fin (some (.val (some p) v)) ⟨i, o.dst, readsOf ops o, footOf (look T) o.op, []⟩ _ _ ⟨o, ho, hd, rfl, rfl, hb, he, h.1, rfl, rfl⟩ rfl (look_putS _ _ _) rfl h.2
      | new v ob =>
        simp only [putK_eq, forceO_eq] at h
        exact fin (some (.new v ob)) ⟨i, o.dst, readsOf ops o, footOf (look T) o.op, [n0 + i]⟩ _ _ ⟨o, ho, hd, rfl, rfl, hb, he, trivial, rfl, rfl⟩ rfl (look_putS _ _ _) (look_upd _ _ _) h
      | wr j ob =>
        simp only [putK_eq, forceO_eq] at h
        exact fin (some (.wr j ob)) ⟨i, o.dst, readsOf ops o, footOf (look T) o.op, [j]⟩ _ _ ⟨o, ho, hd, rfl, rfl, hb, he, trivial, rfl, rfl⟩ rfl (look_putS _ _ _) (look_upd _ _ _) h
      | call g args bs v =>
        simp only [putK_eq] at h
        exact fin (some (.call g args bs v)) ⟨i, o.dst, readsOf ops o, bs ++ footOf (look T) o.op, []⟩ _ _ ⟨o, ho, hd, rfl, rfl, hb, he, trivial, rfl, rfl⟩ rfl (look_putS _ _ _) rfl h

/-- A region whose order is open, cut at number m: behind m every operation waits for all ahead of it. -/
theorem Run.draw {c : Cx} (hc : c.ok) {T : List (Nat × SV)} {M : List (Nat × SObj)} {n : Nat} {D : List Deferred} {id : Nat} {ops : Array Oper} {k : List Item} {R : Ending → World → Prop} (m : Nat)
    (h : drawK c ops.toList n (Run c ⟨T, M, n, D, .code (.region id ops true) :: k⟩ R) (fun T M l => chkB ops.toList m l = true ∧ Run c ⟨T, M, n + lenL ops.toList, D, .inRegion ops (upto m (lenL ops.toList - m)) :: k⟩ R) (upto 0 m) T M []) :
    Run c ⟨T, M, n, D, .code (.region id ops true) :: k⟩ R := by
  rcases drawK_ok _ _ _ _ h with h | ⟨l, T', M', h1, h2, h3, h4⟩
  · exact h
  simp only [List.nil_append] at h3
  unfold chkB at h3
  simp only [Bool.and_eq_true] at h3
  obtain ⟨⟨c1, c2⟩, c3, c4⟩ := h3
  rw [lenL_eq, Array.length_toList] at c2 c3 h4
  have hmle := Nat.le_of_ble_eq_true c2
  have hmk : ∀ k j, (getD0 (masks ops.toList []) k).testBit j = true → TP ops j k := masks_ok ops.toList [] (by simp) (by simp [getD0])
  have hidx : l.map (·.1.i) = List.range m := by rw [h1, upto_range]
  have hlm : ∀ x ∈ l, x.1.i < m := by
    intro x hx
    have : x.1.i ∈ l.map (·.1.i) := List.mem_map.2 ⟨x, hx, rfl⟩
    rw [hidx] at this
    exact List.mem_range.1 this
  have hsort : l.Pairwise (fun a b => a.1.i < b.1.i) := by
    have : (l.map (·.1.i)).Pairwise (· < ·) := by rw [hidx]; exact List.pairwise_lt_range
    exact List.pairwise_map.1 this
  have hpair : l.Pairwise (fun a b => TP ops a.1.i b.1.i ∨ Apart a.1 b.1) := List.pairwise_map.1 (pairsB_ok hmk c4)
  refine ⟨fun ρ a w hi => ?_⟩
  refine TW.next (todo' := .inRegion ops (Region.schedule (c.P.follows .mixedOrders) ops (w.tape w.drawn (.order c.f id))) :: k) (a' := a) (w' := w.drew) (fun cs => fstep_region_draw) ?_
  have hsch : Region.schedule (c.P.follows .mixedOrders) ops (w.tape w.drawn (.order c.f id)) = Region.linearise.go .any ops ops.size (w.tape w.drawn (.order c.f id)) (Array.replicate ops.size false) [] := by
    simp only [Region.schedule, hc.mixed, Bool.true_or, if_true]; rfl
  rw [hsch]
  have hfin : ∀ ρ a w, a.tmps.size = c.fn.ntmps → TmOk ρ (look T') (· < n + ops.size) a → a.defers = D → WI c.w0 c.L ρ (look M') (· < n + ops.size) w → TW c.P c.f c.rr a (.inRegion ops (upto m (ops.size - m)) :: k) w R :=
    fun ρ a w q1 q2 q3 q4 => h4.go ρ a w ⟨q1, q2, q3, q4⟩
  refine game hc hmle (lowB_ok ops.toList 0 c1 (by simp) · · · (Nat.zero_le _)) (fun i j => tailB_ok hmk c3 i j) hfin ops.size l _ _ _ _ _ ρ a w.drew (by simp) ?_ ?_ ?_ hsort hlm hpair h2 hi.sz hi.tm hi.df (hi.wi.ext (Ext.drew w)) (fun x hx => ?_) (fun x _ => ?_)
  · intro i hi'
    have e : (Array.replicate ops.size false).getD i true = false := by simp [Array.getD_eq_getD_getElem?, hi']
    simp only [e, true_iff]
    rcases Nat.lt_or_ge i m with hlt | hge
    · left
      have : i ∈ l.map (·.1.i) := by rw [hidx]; exact List.mem_range.2 hlt
      obtain ⟨x, hx, hxi⟩ := List.mem_map.1 this
      exact ⟨x, hx, hxi⟩
    · exact .inr hge
  · intro i hi'
    simp [Array.getD_eq_getD_getElem?, Array.getElem?_replicate] at hi'
    split at hi' <;> simp_all
  · have : l.length = m := by have := congrArg List.length hidx; simpa using this
    omega
  · have : x < n := hx
    show x < n + ops.size
    omega
  · intro hlt
    have : n + x.1.i < n := hlt
    omega
end Go.Sx
