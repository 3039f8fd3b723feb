/-
  A small symbolic executor over the model (part I): a region whose order is open: the theorem, and the run of such a region.
  No condition: these are definitions and laws that hold of every program.
-/
import Derived.Test.YtoipnojibkjjnaaSxH
namespace Go.Sx

/-! ### One step of a region, on functions -/
def updD (T : Tm) (d : Option Tmp) (v : SV) : Tm :=
  match d with
  | some t => upd T t v
  | none => T
theorem look_putS (T : List (Nat × SV)) (d : Option Tmp) (v : SV) : look (putS T d v) = updD (look T) d v := by
  cases d with
  | none => rfl
  | some t => exact look_upd t v T
def actT (x : Option Eff) (d : Option Tmp) (T : Tm) : Tm :=
  match x with
  | some e => updD T d e.res
  | none => updD T d (.v undef)
def actM (x : Option Eff) (n : Nat) (M : Mem) : Mem :=
  match x with
  | some e => e.mem M n
  | none => M

/-- Operation 'b' does 'x' in the state (T, M) ('none': it is passed over). -/
def StepIs (c : Cx) (ops : List Oper) (n0 : Nat) (b : Tr) (x : Option Eff) (T : Tm) (M : Mem) : Prop :=
  ∃ o, get ops b.i = some o ∧ okD c.fn.ntmps o.dst = true ∧ b.dst = o.dst ∧ b.reads = readsOf ops o ∧
    match x with
    | none => wantS ops T o = some false ∧ b.foot = [] ∧ b.wr = []
    | some e => wantS ops T o = some true ∧ opF c.tab c.pf T M (n0 + b.i) o.op = some e ∧ e.obl ∧ b.foot = readB e ++ footOf T o.op ∧ b.wr = wrOf e (n0 + b.i)

theorem wantS_congr {ops : List Oper} {T T' : Tm} {o : Oper} (h : ∀ t ∈ guardT ops o, T' t = T t) : wantS ops T' o = wantS ops T o := by
  unfold wantS
  unfold guardT at h
  split
  · rfl
  · rename_i j want hg
    simp only [hg] at h
    split
    · rename_i oj hj
      simp only [hj] at h
      split
      · rename_i t ht
        simp only [ht] at h
        rw [h t (by simp)]
      · rfl
    · rfl

theorem footOf_congr {T T' : Tm} {op : Op} (h : ∀ x ∈ op.operands.toList, ∀ t ∈ opndT x, T' t = T t) : footOf T' op = footOf T op := by
  unfold footOf
  have : ∀ l : List Operand, (∀ x ∈ l, ∀ t ∈ opndT x, T' t = T t) → (l.flatMap fun x => match ev T' x with | some v => blkOf v | none => []) = (l.flatMap fun x => match ev T x with | some v => blkOf v | none => []) := by
    intro l
    induction l with
    | nil => intro _; rfl
    | cons x l ih => intro hl; simp only [List.flatMap_cons]; rw [ev_congr (hl x (by simp)), ih (fun y hy => hl y (by simp [hy]))]
  exact this _ h

theorem StepIs.transfer {c : Cx} (hok : PF.oks c.P c.pf) {ops : List Oper} {n0 : Nat} {b : Tr} {x : Option Eff} {T T' : Tm} {M M' : Mem} (h : StepIs c ops n0 b x T M) (hT : ∀ t ∈ b.reads, T' t = T t) (hM : ∀ k ∈ b.foot, M' k = M k) : StepIs c ops n0 b x T' M' := by
  obtain ⟨o, h1, h2, h3, h4, h5⟩ := h
  have hr : ∀ x ∈ o.op.operands.toList, ∀ t ∈ opndT x, T' t = T t := fun x hx t ht => hT t (by
    rw [h4]; unfold readsOf; exact List.mem_append_left _ (List.mem_flatMap.2 ⟨x, hx, ht⟩))
  have hg : ∀ t ∈ guardT ops o, T' t = T t := fun t ht => hT t (by rw [h4]; unfold readsOf; exact List.mem_append_right _ ht)
  refine ⟨o, h1, h2, h3, h4, ?_⟩
  cases x with
  | none => exact ⟨by rw [wantS_congr hg]; exact h5.1, h5.2⟩
  | some e =>
    obtain ⟨g1, g2, g3, g4, g5⟩ := h5
    refine ⟨by rw [wantS_congr hg]; exact g1, ?_, g3, by rw [footOf_congr hr]; exact g4, g5⟩
    exact opF_congr hok g2 hr (fun k hk => hM k (by rw [g4]; exact List.mem_append_right _ hk)) (fun k hk => hM k (by rw [g4]; exact List.mem_append_left _ hk))

/-- Two operations that may change places. -/
structure Apart (a b : Tr) : Prop where
  d : ∀ t, a.dst = some t → b.dst ≠ some t
  ab : ∀ t, a.dst = some t → t ∉ b.reads
  ba : ∀ t, b.dst = some t → t ∉ a.reads
  wf : ∀ k ∈ a.wr, k ∉ b.foot
  fw : ∀ k ∈ b.wr, k ∉ a.foot
  ww : ∀ k ∈ a.wr, k ∉ b.wr

theorem updD_other {T : Tm} {d : Option Tmp} {v : SV} {t : Nat} (h : ∀ u, d = some u → u ≠ t) : updD T d v t = T t := by
  cases d with
  | none => rfl
  | some u => exact upd_other _ _ (h u rfl)
theorem upd_comm {α : Type} (M : Nat → Option α) {i j : Nat} (x y : α) (h : i ≠ j) : upd (upd M i x) j y = upd (upd M j y) i x := by
  funext k
  unfold upd
  by_cases h1 : j = k
  · subst h1; simp [h]
  · simp [h1]
theorem updD_comm {T : Tm} {d d' : Option Tmp} {v v' : SV} (h : ∀ t, d = some t → d' ≠ some t) : updD (updD T d v) d' v' = updD (updD T d' v') d v := by
  cases d with
  | none => rfl
  | some t =>
    cases d' with
    | none => rfl
    | some t' => exact upd_comm T v v' (fun e => h t rfl (by rw [e]))
theorem actT_other {x : Option Eff} {d : Option Tmp} {T : Tm} {t : Nat} (h : ∀ u, d = some u → u ≠ t) : actT x d T t = T t := by
  cases x <;> exact updD_other h
theorem actT_comm {x y : Option Eff} {d d' : Option Tmp} {T : Tm} (h : ∀ t, d = some t → d' ≠ some t) : actT y d' (actT x d T) = actT x d (actT y d' T) := by
  cases x <;> cases y <;> exact updD_comm h
theorem StepIs.memOther {c : Cx} {ops : List Oper} {n0 : Nat} {b : Tr} {x : Option Eff} {T : Tm} {M : Mem} (h : StepIs c ops n0 b x T M) {M' : Mem} {k : Nat} (hk : k ∉ b.wr) : actM x (n0 + b.i) M' k = M' k := by
  obtain ⟨o, h1, h2, h3, h4, h5⟩ := h
  cases x with
  | none => rfl
  | some e =>
    obtain ⟨g1, g2, g3, g4, g5⟩ := h5
    rw [g5] at hk
    cases e with
    | val ob v => rfl
    | call g args bs v => rfl
    | new v o => exact upd_other _ _ (by simp [wrOf] at hk; exact fun e => hk e.symm)
    | wr j o => exact upd_other _ _ (by simp [wrOf] at hk; exact fun e => hk e.symm)
theorem StepIs.memComm {c : Cx} {ops : List Oper} {n0 : Nat} {a b : Tr} {x y : Option Eff} {T T' : Tm} {M M' : Mem} (h : StepIs c ops n0 a x T M) (h' : StepIs c ops n0 b y T' M') (hw : ∀ k ∈ a.wr, k ∉ b.wr) (M0 : Mem) :
    actM y (n0 + b.i) (actM x (n0 + a.i) M0) = actM x (n0 + a.i) (actM y (n0 + b.i) M0) := by
  obtain ⟨o, _, _, _, _, h5⟩ := h
  obtain ⟨o', _, _, _, _, h5'⟩ := h'
  cases x with
  | none => rfl
  | some e =>
    cases y with
    | none => rfl
    | some e' =>
      obtain ⟨_, _, _, _, g5⟩ := h5
      obtain ⟨_, _, _, _, g5'⟩ := h5'
      rw [g5, g5'] at hw
      cases e <;> cases e' <;> first
        | rfl
        | (refine upd_comm M0 _ _ ?_; simp [wrOf] at hw; omega)

/-- The run of some operations, one behind the other. -/
def Runs (c : Cx) (ops : List Oper) (n0 : Nat) : List (Tr × Option Eff) → Tm → Mem → Tm → Mem → Prop
  | [], T, M, T', M' => T = T' ∧ M = M'
  | (b, x) :: l, T, M, T', M' => StepIs c ops n0 b x T M ∧ Runs c ops n0 l (actT x b.dst T) (actM x (n0 + b.i) M) T' M'

theorem Runs.swap {c : Cx} (hok : PF.oks c.P c.pf) {ops : List Oper} {n0 : Nat} {a b : Tr} {x y : Option Eff} {l : List (Tr × Option Eff)} {T T' : Tm} {M M' : Mem} (h : Runs c ops n0 ((a, x) :: (b, y) :: l) T M T' M') (hab : Apart a b) :
    Runs c ops n0 ((b, y) :: (a, x) :: l) T M T' M' := by
  obtain ⟨h1, h2, h3⟩ := h
  have hb : StepIs c ops n0 b y T M := h2.transfer hok (fun t ht => (actT_other (fun u hu e => hab.ab u hu (e ▸ ht))).symm) (fun k hk => (h1.memOther (fun hw => hab.wf k hw hk)).symm)
  have ha : StepIs c ops n0 a x (actT y b.dst T) (actM y (n0 + b.i) M) := h1.transfer hok (fun t ht => actT_other (fun u hu e => hab.ba u hu (e ▸ ht))) (fun k hk => hb.memOther (fun hw => hab.fw k hw hk))
  refine ⟨hb, ha, ?_⟩
  rw [← actT_comm hab.d, ← h1.memComm hb hab.ww]
  exact h3
theorem Runs.front {c : Cx} (hok : PF.oks c.P c.pf) {ops : List Oper} {n0 : Nat} {b : Tr} {y : Option Eff} : ∀ {p q : List (Tr × Option Eff)} {T T' : Tm} {M M' : Mem}, Runs c ops n0 (p ++ (b, y) :: q) T M T' M' → (∀ a ∈ p, Apart a.1 b) → Runs c ops n0 ((b, y) :: (p ++ q)) T M T' M'
  | [], _, _, _, _, _, h, _ => h
  | (a, x) :: p, q, T, T', M, M', h, hp => by
    obtain ⟨h1, h2⟩ := h
    have := Runs.front hok h2 (fun a' ha' => hp a' (by simp [ha']))
    exact Runs.swap hok (l := p ++ q) ⟨h1, this⟩ (hp (a, x) (by simp))

/-! ### The order -/
inductive TP (ops : Array Oper) : Nat → Nat → Prop
  | one {i j : Nat} {o : Oper} {e : Edge} (ho : ops[i]? = some o) (he : e ∈ o.after) (hb : Region.binds .any e = true) (hj : e.on = j) : TP ops j i
  | more {i j k : Nat} (h : TP ops j k) {o : Oper} {e : Edge} (ho : ops[i]? = some o) (he : e ∈ o.after) (hb : Region.binds .any e = true) (hk : e.on = k) : TP ops j i

/-- All that must come ahead of operation 'i' has been listed. -/
def Due (ops : Array Oper) (listed : Array Bool) (i : Nat) : Prop := ∀ o e, ops[i]? = some o → e ∈ o.after → Region.binds .any e = true → listed.getD e.on false = true
theorem mem_ready {ops : Array Oper} {listed : Array Bool} {i : Nat} : i ∈ Region.ready .any ops listed ↔ i < ops.size ∧ listed.getD i true = false ∧ Due ops listed i := by
  unfold Region.ready Due
  simp only [List.mem_filter, List.mem_range, Bool.and_eq_true, Bool.not_eq_true']
  constructor
  · rintro ⟨h1, h2, h3⟩
    refine ⟨h1, h2, fun o e ho he hb => ?_⟩
    simp only [ho, Option.map_some, Option.getD_some] at h3
    have := (Array.all_eq_true_iff_forall_mem.1 h3) e he
    simpa [hb] using this
  · rintro ⟨h1, h2, h3⟩
    refine ⟨h1, h2, ?_⟩
    rw [Array.getElem?_eq_getElem h1]
    simp only [Option.map_some, Option.getD_some]
    refine Array.all_eq_true_iff_forall_mem.2 (fun e he => ?_)
    by_cases hb : Region.binds .any e = true
    · rw [h3 _ e (Array.getElem?_eq_getElem h1) he hb]; simp
    · simp [hb]
/-- What has been listed was due. -/
def Down (ops : Array Oper) (listed : Array Bool) : Prop := ∀ i, listed.getD i false = true → Due ops listed i
theorem TP.listed {ops : Array Oper} {listed : Array Bool} (hD : Down ops listed) {j i : Nat} (h : TP ops j i) : Due ops listed i → listed.getD j false = true := by
  induction h with
  | one ho he hb hj => intro hd; rw [← hj]; exact hd _ _ ho he hb
  | more _ ho he hb hk ih => intro hd; exact ih (hD _ (by rw [← hk]; exact hd _ _ ho he hb))

theorem getD_set {listed : Array Bool} {i j : Nat} {d : Bool} : (listed.setIfInBounds i true).getD j d = if i = j ∧ j < listed.size then true else listed.getD j d := by
  simp only [Array.getD_eq_getD_getElem?, Array.getElem?_setIfInBounds]
  by_cases h : i = j
  · subst h
    by_cases h2 : i < listed.size
    · simp [h2]
    · simp [h2]
  · simp [h]
theorem getD_ft {listed : Array Bool} {i : Nat} (h : listed.getD i true = false) : i < listed.size ∧ listed.getD i false = false := by
  rcases Nat.lt_or_ge i listed.size with hl | hl
  · exact ⟨hl, by simp [Array.getD_eq_getD_getElem?, Array.getElem?_eq_getElem hl] at h ⊢; exact h⟩
  · simp [Array.getD_eq_getD_getElem?, Array.getElem?_eq_none hl] at h
theorem Down.set {ops : Array Oper} {listed : Array Bool} (hD : Down ops listed) {i : Nat} (hd : Due ops listed i) : Down ops (listed.setIfInBounds i true) := by
  intro j hj o e ho he hb
  have mono : ∀ k, listed.getD k false = true → (listed.setIfInBounds i true).getD k false = true := fun k hk => by rw [getD_set]; split <;> simp_all
  rw [getD_set] at hj
  split at hj
  · rename_i h; obtain ⟨rfl, _⟩ := h; exact mono _ (hd o e ho he hb)
  · exact mono _ (hD j hj o e ho he hb)

theorem go_step (ops : Array Oper) (fuel t : Nat) (listed : Array Bool) : Region.linearise.go .any ops (fuel + 1) t listed [] =
    match (Region.ready .any ops listed)[t % (Region.ready .any ops listed).length]? with
    | some i => i :: Region.linearise.go .any ops fuel (t / (Region.ready .any ops listed).length) (listed.setIfInBounds i true) []
    | none => [] := by
  simp only [Region.linearise.go]
  show (match (Region.ready .any ops listed)[t % (Region.ready .any ops listed).length]? with
    | some i => Region.linearise.go .any ops fuel (t / (Region.ready .any ops listed).length) (listed.setIfInBounds i true) [i]
    | none => List.reverse []) = _
  split
  · rw [linearise_go_acc]; simp
  · rfl
theorem pick_ready {ops : Array Oper} {listed : Array Bool} (t : Nat) (h : Region.ready .any ops listed ≠ []) : ∃ i, (Region.ready .any ops listed)[t % (Region.ready .any ops listed).length]? = some i ∧ i ∈ Region.ready .any ops listed := by
  have hl : 0 < (Region.ready .any ops listed).length := List.length_pos_iff.2 h
  have hlt := Nat.mod_lt t hl
  exact ⟨_, List.getElem?_eq_getElem hlt, List.getElem_mem hlt⟩

/-- The tail's order is forced. -/
theorem go_tail {ops : Array Oper} : ∀ (k m fuel t : Nat) (listed : Array Bool), m + k = ops.size → k ≤ fuel → listed.size = ops.size → (∀ i, i < ops.size → (listed.getD i true = false ↔ m ≤ i)) → Down ops listed →
    (∀ i j, m ≤ i → i < ops.size → j < i → TP ops j i) → (∀ i o e, ops[i]? = some o → e ∈ o.after → Region.binds .any e = true → e.on < i) → Region.linearise.go .any ops fuel t listed [] = upto m k
  | 0, m, fuel, t, listed, hm, _, hs, hU, _, _, _ => by
    cases fuel with
    | zero => rfl
    | succ fuel =>
      have : Region.ready .any ops listed = [] := by
        apply List.eq_nil_iff_forall_not_mem.2
        intro i hi
        obtain ⟨h1, h2, _⟩ := mem_ready.1 hi
        have := (hU i h1).1 h2; omega
      rw [go_step, this]; rfl
  | k + 1, m, 0, _, _, _, hf, _, _, _, _, _ => by omega
  | k + 1, m, fuel + 1, t, listed, hm, hf, hs, hU, hD, hTP, hlow => by
    have hmlt : m < ops.size := by omega
    have hmready : m ∈ Region.ready .any ops listed := by
      refine mem_ready.2 ⟨hmlt, (hU m hmlt).2 (Nat.le_refl _), fun o e ho he hb => ?_⟩
      have hlt := hlow m o e ho he hb
      cases hc : listed.getD e.on false with
      | true => rfl
      | false =>
        have hlt' : e.on < listed.size := by omega
        have : listed.getD e.on true = false := by
          simp [Array.getD_eq_getD_getElem?, Array.getElem?_eq_getElem hlt'] at hc ⊢; exact hc
        have := (hU e.on (by omega)).1 this
        omega
    obtain ⟨i, hi, hir⟩ := pick_ready (ops := ops) (listed := listed) t (by intro h; rw [h] at hmready; cases hmready)
    have him : i = m := by
      obtain ⟨h1, h2, h3⟩ := mem_ready.1 hir
      have hle := (hU i h1).1 h2
      rcases Nat.lt_or_ge m i with hlt | hge
      · have := TP.listed hD (hTP i m hle h1 hlt) h3
        have := (getD_ft ((hU m hmlt).2 (Nat.le_refl _))).2
        simp_all
      · omega
    subst him
    rw [go_step, hi]
    simp only [upto]
    congr 1
    obtain ⟨h1, h2, h3⟩ := mem_ready.1 hir
    refine go_tail k (i + 1) fuel _ _ (by omega) (by omega) (by simpa using hs) (fun j hj => ?_) (hD.set h3) (fun a b ha hb hc => hTP a b (by omega) hb hc) hlow
    rw [getD_set]
    constructor
    · intro h
      split at h
      · cases h
      · rename_i hne
        have := (hU j hj).1 h
        have : i ≠ j := fun e => hne ⟨e, by omega⟩
        omega
    · intro h
      rw [if_neg (by omega)]
      exact (hU j hj).2 (by omega)

theorem TmOk.mono {ρ : Env} {T : Tm} {S S' : Nat → Prop} {a : Act} (h : TmOk ρ T S a) (hS : ∀ i, S i → S' i) : TmOk ρ T S' a := fun t v ht =>
  let ⟨h1, h2, h3⟩ := h t v ht
  ⟨h1, h2, SV.sc_mono hS v h3⟩
theorem TmOk.updD {ρ ρ' : Env} {T : Tm} {S S' : Nat → Prop} {a : Act} {N : Nat} (h : TmOk ρ T S a) (hsz : a.tmps.size = N) (hag : Env.agree S ρ ρ') (hS : ∀ i, S i → S' i) {d : Option Tmp} (hd : okD N d = true) {v : SV} (hv : v.sc S') :
    TmOk ρ' (updD T d v) S' (a.put d (v.conc ρ')) := by
  intro u x hx
  cases d with
  | none =>
    obtain ⟨h1, h2, h3⟩ := h u x hx
    exact ⟨h1, by rw [conc_agree hag x h3]; exact h2, SV.sc_mono hS x h3⟩
  | some t =>
    have ht : t < a.tmps.size := by rw [hsz]; simpa [okD, Nat.blt_eq] using hd
    simp only [Act.put, Array.size_setIfInBounds]
    by_cases e : t = u
    · subst e
      simp only [Go.Sx.updD, upd_same, Option.some.injEq] at hx
      subst hx
      exact ⟨ht, by simp [ht], hv⟩
    · simp only [Go.Sx.updD, upd_other _ _ e] at hx
      obtain ⟨h1, h2, h3⟩ := h u x hx
      refine ⟨h1, ?_, SV.sc_mono hS x h3⟩
      rw [conc_agree hag x h3, ← h2]
      simp [e]

theorem Act.put_size (a : Act) (d : Option Tmp) (v : Value) : (a.put d v).tmps.size = a.tmps.size := by cases d <;> simp [Act.put]
theorem Act.put_defers (a : Act) (d : Option Tmp) (v : Value) : (a.put d v).defers = a.defers := by cases d <;> rfl

/-- Whatever order is drawn: the operations 'l' (those ahead of number m, in the order of the text) end as they do in the order of the text. -/
theorem game {c : Cx} (hc : c.ok) {ops : Array Oper} {n0 m : Nat} {T' : Tm} {M' : Mem} {D : List Deferred} {R : Ending → World → Prop} {k : List Item} (hm : m ≤ ops.size)
    (hlow : ∀ i o e, ops[i]? = some o → e ∈ o.after → Region.binds .any e = true → e.on < i) (htail : ∀ i j, m ≤ i → i < ops.size → j < i → TP ops j i)
    (hfin : ∀ ρ a w, a.tmps.size = c.fn.ntmps → TmOk ρ T' (· < n0 + ops.size) a → a.defers = D → WI c.w0 c.L ρ M' (· < n0 + ops.size) w → TW c.P c.f c.rr a (.inRegion ops (upto m (ops.size - m)) :: k) w R) :
    ∀ (fuel : Nat) (l : List (Tr × Option Eff)) (t : Nat) (listed : Array Bool) (T : Tm) (M : Mem) (S : Nat → Prop) (ρ : Env) (a : Act) (w : World),
      listed.size = ops.size → (∀ i, i < ops.size → (listed.getD i true = false ↔ (∃ x ∈ l, x.1.i = i) ∨ m ≤ i)) → Down ops listed → l.length + (ops.size - m) ≤ fuel →
      l.Pairwise (fun a b => a.1.i < b.1.i) → (∀ x ∈ l, x.1.i < m) → l.Pairwise (fun a b => TP ops a.1.i b.1.i ∨ Apart a.1 b.1) → Runs c ops.toList n0 l T M T' M' →
      a.tmps.size = c.fn.ntmps → TmOk ρ T S a → a.defers = D → WI c.w0 c.L ρ M S w → (∀ x, S x → x < n0 + ops.size) → (∀ x ∈ l, ¬ S (n0 + x.1.i)) →
      TW c.P c.f c.rr a (.inRegion ops (Region.linearise.go .any ops fuel t listed []) :: k) w R := by
  intro fuel
  induction fuel with
  | zero =>
    intro l t listed T M S ρ a w hls hU hD hcount hsort hlt hap hrun hsz hT hdf hW hS hfresh
    have hl : l = [] := List.length_eq_zero_iff.1 (by omega)
    subst hl
    obtain ⟨rfl, rfl⟩ := hrun
    rw [go_tail (ops.size - m) m 0 t listed (by omega) (by omega) hls (fun i hi => by rw [hU i hi]; simp) hD htail hlow]
    exact hfin ρ a w hsz (hT.mono hS) hdf (hW.mono hS)
  | succ fuel ih =>
    intro l t listed T M S ρ a w hls hU hD hcount hsort hlt hap hrun hsz hT hdf hW hS hfresh
    cases hl : l with
    | nil =>
      subst hl
      obtain ⟨rfl, rfl⟩ := hrun
      rw [go_tail (ops.size - m) m (fuel + 1) t listed (by omega) (by simpa using hcount) hls (fun i hi => by rw [hU i hi]; simp) hD htail hlow]
      exact hfin ρ a w hsz (hT.mono hS) hdf (hW.mono hS)
    | cons x0 l0 =>
      have hx0 : x0 ∈ l := by rw [hl]; simp
      have hx0m := hlt x0 hx0
      have hx0lt : x0.1.i < ops.size := by omega
      have hx0un : listed.getD x0.1.i true = false := (hU _ hx0lt).2 (.inl ⟨x0, hx0, rfl⟩)
      have hready : x0.1.i ∈ Region.ready .any ops listed := by
        refine mem_ready.2 ⟨hx0lt, hx0un, fun o e ho he hb => ?_⟩
        have hlow' := hlow _ o e ho he hb
        cases hcx : listed.getD e.on false with
        | true => rfl
        | false =>
          have hlt' : e.on < listed.size := by omega
          have : listed.getD e.on true = false := by
            simp [Array.getD_eq_getD_getElem?, Array.getElem?_eq_getElem hlt'] at hcx ⊢; exact hcx
          rcases (hU e.on (by omega)).1 this with ⟨y, hy, hye⟩ | hge
          · rw [hl] at hy hsort
            rcases List.mem_cons.1 hy with rfl | hy
            · omega
            · have := (List.pairwise_cons.1 hsort).1 y hy; omega
          · omega
      obtain ⟨i, hi, hir⟩ := pick_ready (ops := ops) (listed := listed) t (by intro h; rw [h] at hready; cases hready)
      obtain ⟨h1, h2, h3⟩ := mem_ready.1 hir
      have him : ¬ m ≤ i := by
        intro hge
        have := TP.listed hD (htail i x0.1.i hge h1 (by omega)) h3
        have := (getD_ft hx0un).2
        simp_all
      obtain ⟨⟨b, x⟩, hbl, hbi⟩ : ∃ y ∈ l, y.1.i = i := by
        rcases (hU i h1).1 h2 with h | h
        · exact h
        · exact absurd h him
      simp only at hbi
      subst hbi
      obtain ⟨p, q, hpq⟩ := List.append_of_mem hbl
      rw [hpq] at hrun hap hsort
      have hapart : ∀ y ∈ p, Apart y.1 b := by
        intro y hy
        rcases (List.pairwise_append.1 hap).2.2 y hy (b, x) (by simp) with htp | h
        · exfalso
          have e1 := TP.listed hD htp h3
          have hyl : y ∈ l := by rw [hpq]; simp [hy]
          have e2 := (getD_ft ((hU y.1.i (by have := hlt y hyl; omega)).2 (.inl ⟨y, hyl, rfl⟩))).2
          simp_all
        · exact h
      obtain ⟨hstep, hrest⟩ := hrun.front hc.pf hapart
      have hbm : b.i < m := hlt (b, x) hbl
      have hbS : ¬ S (n0 + b.i) := hfresh (b, x) hbl
      have hsort' : (p ++ q).Pairwise (fun a b => a.1.i < b.1.i) := by
        rw [List.pairwise_append] at hsort ⊢
        exact ⟨hsort.1, (List.pairwise_cons.1 hsort.2.1).2, fun y hy z hz => hsort.2.2 y hy z (by simp [hz])⟩
      have hap' : (p ++ q).Pairwise (fun a b => TP ops a.1.i b.1.i ∨ Apart a.1 b.1) := by
        rw [List.pairwise_append] at hap ⊢
        exact ⟨hap.1, (List.pairwise_cons.1 hap.2.1).2, fun y hy z hz => hap.2.2 y hy z (by simp [hz])⟩
      have hne : ∀ y ∈ p ++ q, y.1.i ≠ b.i := by
        intro y hy e
        rw [List.pairwise_append] at hsort
        rcases List.mem_append.1 hy with hy | hy
        · have := hsort.2.2 y hy (b, x) (by simp); simp only at this; omega
        · have := (List.pairwise_cons.1 hsort.2.1).1 y hy; simp only at this; omega
      have hmem : ∀ y, y ∈ l ↔ y = (b, x) ∨ y ∈ p ++ q := by intro y; rw [hpq]; simp; constructor <;> (rintro (h | h | h) <;> simp [h])
      have hU' : ∀ j, j < ops.size → ((listed.setIfInBounds b.i true).getD j true = false ↔ (∃ y ∈ p ++ q, y.1.i = j) ∨ m ≤ j) := by
        intro j hj
        rw [getD_set]
        constructor
        · intro h
          split at h
          · cases h
          · rename_i hnej
            rcases (hU j hj).1 h with ⟨y, hy, hyj⟩ | h
            · rcases (hmem y).1 hy with rfl | hy
              · exact absurd ⟨hyj, by omega⟩ hnej
              · exact .inl ⟨y, hy, hyj⟩
            · exact .inr h
        · rintro (⟨y, hy, hyj⟩ | h)
          · rw [if_neg (fun hh => hne y hy (hyj.trans hh.1.symm))]
            exact (hU j hj).2 (.inl ⟨y, (hmem y).2 (.inr hy), hyj⟩)
          · rw [if_neg (by omega)]
            exact (hU j hj).2 (.inr h)
      have hlt' : ∀ y ∈ p ++ q, y.1.i < m := fun y hy => hlt y ((hmem y).2 (.inr hy))
      have hlen : (p ++ q).length + (ops.size - m) ≤ fuel := by
        have : l.length = (p ++ q).length + 1 := by rw [hpq]; simp; omega
        omega
      rw [go_step, hi]
      simp only
      obtain ⟨o, s1, s2, s3, s4, s5⟩ := hstep
      rw [get_eq, Array.getElem?_toList] at s1
      cases x with
      | none =>
        refine TW.pass s1 (wantS_ok hT s5.1) ?_
        refine ih (p ++ q) _ _ _ _ S ρ _ w (by simpa using hls) hU' (hD.set h3) hlen hsort' hlt' hap' hrest (by rw [Act.put_size]; exact hsz) ?_ (by rw [Act.put_defers]; exact hdf) hW hS (fun y hy => hfresh y ((hmem y).2 (.inr hy)))
        rw [s3]
        exact hT.updD hsz (Env.agree.refl S ρ) (fun _ h => h) s2 (v := .v undef) trivial
      | some e =>
        obtain ⟨g1, g2, g3, g4, g5⟩ := s5
        refine TW.op s1 (wantS_ok hT g1) ?_
        refine (opF_ok hc.tab hc.pf hT hW hbS g2 g3).mono fun v w' hp => ?_
        obtain ⟨ρ', r1, rfl, r3, r4⟩ := hp
        have hdom : ∀ j, S j → e.dom S (n0 + b.i) j := fun j hj => by cases e <;> first | exact hj | exact .inl hj
        have hdom' : ∀ j, e.dom S (n0 + b.i) j → S j ∨ j = n0 + b.i := fun j hj => by cases e <;> first | exact .inl hj | exact hj
        refine ih (p ++ q) _ _ _ _ (e.dom S (n0 + b.i)) ρ' _ w' (by simpa using hls) hU' (hD.set h3) hlen hsort' hlt' hap' hrest (by rw [Act.put_size]; exact hsz) ?_ (by rw [Act.put_defers]; exact hdf) r4 ?_ ?_
        · rw [s3]
          exact hT.updD hsz r1 hdom s2 r3
        · intro j hj
          rcases hdom' j hj with hj | rfl
          · exact hS j hj
          · omega
        · intro y hy hj
          rcases hdom' _ hj with hj | hj
          · exact hfresh y ((hmem y).2 (.inr hy)) hj
          · exact hne y hy (by omega)
end Go.Sx
