/-
  A small symbolic executor over the model (part C): the effect of single operations on symbolic states, each with the law that it is the model's own.
  No condition: these are definitions and laws that hold of every program.
-/
import Derived.Test.YtoipnojibkjjnaaSxB
import Derived.Laws.StructEq
namespace Go.Sx

/-- What an operation does: a value (under an obligation); a new block; a block written over; a call of a function that only computes. -/
inductive Eff where
  | val (ob : Option Prop) (v : SV)
  | new (v : SV) (o : SObj)
  | wr (i : Nat) (o : SObj)
  | call (g : FuncId) (args : List SV) (bs : List Nat) (v : SV)

def Eff.obl : Eff → Prop
  | .val (some p) _ => p
  | _ => True
def Eff.res : Eff → SV
  | .val _ v => v
  | .new v _ => v
  | .wr _ _ => .v undef
  | .call _ _ _ v => v
def Eff.mem (M : Mem) (n : Nat) : Eff → Mem
  | .new _ o => upd M n o
  | .wr i o => upd M i o
  | _ => M
def Eff.dom (S : Nat → Prop) (n : Nat) : Eff → Nat → Prop
  | .new _ _ => fun j => S j ∨ j = n
  | _ => S

/-- The outcome of an operation whose effect is 'e', new blocks getting the number n. -/
def EPost (w0 : World) (L : List (Nat × Nat)) (ρ : Env) (M : Mem) (S : Nat → Prop) (n : Nat) (e : Eff) (v : Value) (w' : World) : Prop :=
  ∃ ρ', Env.agree S ρ ρ' ∧ v = e.res.conc ρ' ∧ e.res.sc (e.dom S n) ∧ WI w0 L ρ' (e.mem M n) (e.dom S n) w'

section
variable {P : Program} {tab : Tab} {w0 w : World} {L : List (Nat × Nat)} {ρ : Env} {T : Tm} {M : Mem} {S : Nat → Prop} {n : Nat} {a : Act} {o : Oper}

theorem EPost.same (hW : WI w0 L ρ M S w) {ob : Option Prop} {v : SV} (hv : v.sc S) : EPost w0 L ρ M S n (.val ob v) (v.conc ρ) w :=
  ⟨ρ, Env.agree.refl S ρ, rfl, hv, hW⟩

/-! ### Cells -/
theorem concs_get (ρ : Env) : ∀ (l : List SV) (j : Nat) (c : SV), get l j = some c → (SV.concs ρ l)[j]? = some (c.conc ρ)
  | [], j, c, h => by simp [get] at h
  | a :: l, 0, c, h => by simp [get] at h; subst h; simp [SV.concs]
  | a :: l, j + 1, c, h => by simp only [get] at h; simp only [SV.concs, List.getElem?_cons_succ]; exact concs_get ρ l j c h
theorem scs_get {S : Nat → Prop} : ∀ {l : List SV} {j : Nat} {c : SV}, SV.scs S l → get l j = some c → c.sc S
  | [], j, c, _, h => by simp [get] at h
  | a :: l, 0, c, hs, h => by simp [get] at h; subst h; exact hs.1
  | a :: l, j + 1, c, hs, h => by simp only [get] at h; exact scs_get hs.2 h
theorem scs_of_mem {l l' : List SV} (h : SV.scs S l) (hm : ∀ x ∈ l', x ∈ l) : SV.scs S l' := by
  rw [scs_iff] at *; exact fun x hx => h x (hm x hx)
theorem scs_append {l l' : List SV} (h : SV.scs S l) (h' : SV.scs S l') : SV.scs S (l ++ l') := by
  rw [scs_iff] at *; intro x hx; rcases List.mem_append.1 hx with hx | hx
  · exact h x hx
  · exact h' x hx
theorem concs_append (ρ : Env) (l l' : List SV) : SV.concs ρ (l ++ l') = SV.concs ρ l ++ SV.concs ρ l' := by simp [concs_map]
theorem concs_length (ρ : Env) (l : List SV) : (SV.concs ρ l).length = l.length := by simp [concs_map]

theorem WI.cell (hW : WI w0 L ρ M S w) {i : Nat} {ob : SObj} {cs : List SV} {j : Nat} {c : SV} (hi : M i = some ob) (hl : ob.list = some cs) (hg : get cs j = some c) :
    w.cell? ⟨ρ.s i, ρ.o i + j, none⟩ = some (c.conc ρ) := by
  obtain ⟨_, _, h3⟩ := hW.mem i ob hi
  have hg' := concs_get ρ cs j c hg
  cases ob with
  | cells cs' t =>
    simp only [SObj.list, Option.some.injEq] at hl
    subst hl
    obtain ⟨h0, h4⟩ := h3
    simp [World.cell?, h4, h0, hg']
  | row e m xs t =>
    simp only [SObj.list, Option.some.injEq] at hl
    subst hl
    obtain ⟨h0, hlen, ⟨_, hz⟩ | ⟨cap, sp, _, _, h4⟩⟩ := h3
    · have : xs = [] := by subst hz; simpa using hlen
      subst this; simp [get] at hg
    · have hj : j < (SV.concs ρ xs).length := by
        rcases Nat.lt_or_ge j (SV.concs ρ xs).length with h | h
        · exact h
        · rw [List.getElem?_eq_none h] at hg'; cases hg'
      simp only [World.cell?, h4, h0, Nat.zero_add, Option.isSome_none, Bool.false_eq_true, if_false]
      rw [← Array.getElem?_toList]
      simp only [List.getElem?_append_left hj, hg']
  | obj x => simp [SObj.list] at hl
  | win vs => simp [SObj.list] at hl

theorem WI.winCell (hW : WI w0 L ρ M S w) {i : Nat} {vs : List Value} {j : Nat} {x : Value} (hi : M i = some (.win vs)) (hg : get vs j = some x) :
    w.cell? ⟨ρ.s i, ρ.o i + j, none⟩ = some x := by
  obtain ⟨_, _, h1, h2, h3⟩ := hW.mem i _ hi
  rw [get_eq] at hg
  have := hW.keep _ h1 h2
  rw [← h3 j x hg]
  simp only [World.cell?, this]

/-- The block of told cells, where it has any: all of it. -/
theorem WI.block (hW : WI w0 L ρ M S w) {i : Nat} {ob : SObj} {cs : List SV} {j : Nat} {c : SV} (hi : M i = some ob) (hl : ob.list = some cs) (hg : get cs j = some c) :
    ρ.o i = 0 ∧ ob.occ ρ i ∧ ∃ t sp, w.heap[ρ.s i]? = some (.cells (SV.concs ρ cs ++ sp).toArray t (0, 0)) ∧
      ∀ (cs' : List SV) (w' : World), cs'.length = cs.length → w'.heap[ρ.s i]? = some (.cells (SV.concs ρ cs' ++ sp).toArray t (0, 0)) →
        (match ob with | .cells _ t => SObj.cells cs' t | .row e n _ t => SObj.row e n cs' t | x => x).holds w0 L ρ i w' := by
  obtain ⟨_, _, h3⟩ := hW.mem i ob hi
  cases ob with
  | cells cs0 t =>
    simp only [SObj.list, Option.some.injEq] at hl
    subst hl
    obtain ⟨h0, h4⟩ := h3
    exact ⟨h0, trivial, t, [], by simpa using h4, fun cs' w' _ hh => ⟨h0, by simpa using hh⟩⟩
  | row e m xs t =>
    simp only [SObj.list, Option.some.injEq] at hl
    subst hl
    obtain ⟨h0, hlen, ⟨_, hz⟩ | ⟨cap, sp, hh, hc, h4⟩⟩ := h3
    · have : xs = [] := by subst hz; simpa using hlen
      subst this; simp [get] at hg
    · exact ⟨h0, by simp [SObj.occ, hh], t, sp, h4, fun cs' w' hl' hh' => ⟨h0, by rw [hl']; exact hlen, .inr ⟨cap, sp, hh, hc, hh'⟩⟩⟩
  | obj x => simp [SObj.list] at hl
  | win vs => simp [SObj.list] at hl

/-! ### Moves -/
def opMove (T : Tm) (x : Operand) : Option Eff :=
  match ev T x with
  | some v => some (.val none v)
  | none => none
theorem opMove_ok (hT : TmOk ρ T S a) (hW : WI w0 L ρ M S w) {x : Operand} {e : Eff} (h : opMove T x = some e) (ho : o.op = .move x ∨ o.op = .assign x) : Oc P a o w (EPost w0 L ρ M S n e) := by
  unfold opMove at h
  split at h
  · rename_i v hv
    obtain rfl := Option.some.inj h
    obtain ⟨h1, h2⟩ := ev_ok hT hv
    refine Oc.value (w' := w) (v := v.conc ρ) ?_ (EPost.same hW h2)
    rcases ho with ho | ho <;> simp [execOp, ho, h1]
  · cases h

def opPick (T : Tm) (c x y : Operand) : Option Eff :=
  match ev T c with
  | some (.v (.bool b)) => match b with
    | true => opMove T x
    | false => opMove T y
  | _ => none
theorem opPick_ok (hT : TmOk ρ T S a) (hW : WI w0 L ρ M S w) {c x y : Operand} {e : Eff} (h : opPick T c x y = some e) (ho : o.op = .pick c x y) : Oc P a o w (EPost w0 L ρ M S n e) := by
  unfold opPick at h
  split at h
  · rename_i b hb
    obtain ⟨h1, _⟩ := ev_ok hT hb
    simp only [SV.conc] at h1
    cases b
    · dsimp only at h
      unfold opMove at h
      split at h
      · rename_i v hv
        obtain rfl := Option.some.inj h
        obtain ⟨h3, h4⟩ := ev_ok hT hv
        exact Oc.value (w' := w) (v := v.conc ρ) (by simp [execOp, ho, h1, h3, asBool]) (EPost.same hW h4)
      · cases h
    · dsimp only at h
      unfold opMove at h
      split at h
      · rename_i v hv
        obtain rfl := Option.some.inj h
        obtain ⟨h3, h4⟩ := ev_ok hT hv
        exact Oc.value (w' := w) (v := v.conc ρ) (by simp [execOp, ho, h1, h3, asBool]) (EPost.same hW h4)
      · cases h
  · cases h

/-! ### New blocks -/
theorem EPost.newCells (hW : WI w0 L ρ M S w) (hn : ¬ S n) {cs : List SV} (hs : SV.scs S cs) (t : TypeId) :
    EPost w0 L ρ M S n (.new (.ptr n 0) (.cells cs t)) (.pointer (some ⟨w.heap.size, 0, none⟩)) (w.alloc (.cells (SV.concs ρ cs).toArray t)) := by
  obtain ⟨h1, h2⟩ := hW.alloc (i := n) hn (o := .cells cs t) (x := .cells (SV.concs ρ cs).toArray t) hs (fun ρ' w' ha hs' ho' hh => ⟨ho', by rw [hs', hh, concs_agree ha cs hs]⟩)
  exact ⟨_, h2, by simp [Eff.res, SV.conc, Env.bind], .inr rfl, h1⟩

def opBox (T : Tm) (n : Nat) (t : TypeId) (x : Operand) : Option Eff :=
  match ev T x with
  | some v => some (.new (.ptr n 0) (.cells v.cells t))
  | none => none
theorem opBox_ok (hT : TmOk ρ T S a) (hW : WI w0 L ρ M S w) (hn : ¬ S n) {t : TypeId} {x : Operand} {e : Eff} (h : opBox T n t x = some e) (ho : o.op = .box t x) : Oc P a o w (EPost w0 L ρ M S n e) := by
  unfold opBox at h
  split at h
  · rename_i v hv
    obtain rfl := Option.some.inj h
    obtain ⟨h1, h2⟩ := ev_ok hT hv
    refine Oc.value ?_ (EPost.newCells hW hn (sc_cells h2) t)
    simp [execOp, ho, Instr.box, newVar, newRow, h1, conc_cells]
  · cases h

def opAlloc (tab : Tab) (n : Nat) (t : TypeId) : Option Eff :=
  match look tab t with
  | some ti => some (.new (.ptr n 0) (.cells (ti.zero.map .v) t))
  | none => none
theorem opAlloc_ok (hP : Tab.oks P tab) (hW : WI w0 L ρ M S w) (hn : ¬ S n) {t : TypeId} {e : Eff} (h : opAlloc tab n t = some e) (ho : o.op = .alloc t) : Oc P a o w (EPost w0 L ρ M S n e) := by
  unfold opAlloc at h
  split at h
  · rename_i ti hti
    obtain rfl := Option.some.inj h
    obtain ⟨z, hz, hc⟩ := run_zero (w := w) (Tab.ok_look hP hti)
    have := EPost.newCells hW hn (cs := ti.zero.map .v) (scs_v S _) t
    rw [concs_v] at this
    refine Oc.value ?_ this
    simp [execOp, ho, Instr.alloc, hz, newVar, newRow, hc]
  · cases h

/-! ### Loads and stores -/
def opLoad (tab : Tab) (T : Tm) (M : Mem) (t : TypeId) (x : Operand) : Option Eff :=
  match look tab t with
  | some ti => match ev T x with
    | some (.ptr i off) => match M i with
      | some (.win vs) => match ti.sh.isAgg with
        | false => match get vs off with
          | some c => some (.val none (.v c))
          | none => none
        | true => match takeD vs off ti.size with
          | some l => some (.val none (.agg (l.map .v)))
          | none => none
      | some ob => match ob.list with
        | some cs => match ti.sh.isAgg with
          | false => match get cs off with
            | some c => some (.val none c)
            | none => none
          | true => match takeD cs off ti.size with
            | some l => some (.val none (.agg l))
            | none => none
        | none => none
      | none => none
    | _ => none
  | none => none

theorem addr_add (g off j : Nat) : (⟨g, off, none⟩ : Addr).add j = ⟨g, off + j, none⟩ := by unfold Addr.add; split <;> simp_all

theorem run_loadVar_scalar {t : TypeId} {ti : TI} (h : TI.ok P t ti) (ha : ti.sh.isAgg = false) {ad : Addr} {v : Value} (hc : w.cell? ad = some v) : (loadVar t ad).run P w = .ok v w := by
  unfold loadVar
  simp only [Sem.run_bind, run_isAgg h, ha, Result.andThen_ok, Bool.false_eq_true, if_false, run_load, hc]
theorem run_loadVar_agg {t : TypeId} {ti : TI} (h : TI.ok P t ti) (ha : ti.sh.isAgg = true) {g off : Nat} {vs : List Value} (hl : vs.length = ti.size)
    (hc : ∀ j v, vs[j]? = some v → w.cell? ⟨g, off + j, none⟩ = some v) : (loadVar t ⟨g, off, none⟩).run P w = .ok (.agg vs.toArray) w := by
  unfold loadVar
  have := run_loadCells_list (P := P) w ⟨g, off, none⟩ vs (fun j v hv => by rw [addr_add]; exact hc j v hv)
  simp only [Sem.run_bind, run_isAgg h, ha, Result.andThen_ok, if_true, run_size h, ← hl, this, Sem.run_pure]

theorem opLoad_run (hP : Tab.oks P tab) (hT : TmOk ρ T S a) (hW : WI w0 L ρ M S w) {t : TypeId} {x : Operand} {e : Eff} (h : opLoad tab T M t x = some e) :
    ∃ v, e = .val none v ∧ v.sc S ∧ ∃ ad, a.eval x = .pointer (some ad) ∧ (loadVar t ad).run P w = .ok (v.conc ρ) w := by
  unfold opLoad at h
  split at h
  case h_2 => cases h
  rename_i ti hti
  have hti := Tab.ok_look hP hti
  split at h
  case h_2 => cases h
  rename_i i off hx
  obtain ⟨h1, _⟩ := ev_ok hT hx
  simp only [SV.conc] at h1
  split at h
  · rename_i vs hi
    split at h
    · rename_i ha
      split at h
      · rename_i c hg
        obtain rfl := Option.some.inj h
        exact ⟨.v c, rfl, trivial, _, h1, run_loadVar_scalar hti ha (hW.winCell hi hg)⟩
      · cases h
    · rename_i ha
      split at h
      · rename_i l hg
        obtain rfl := Option.some.inj h
        obtain ⟨g1, g2⟩ := takeD_eq _ _ _ _ hg
        have hlen : l.length = ti.size := by rw [g2]; simp; omega
        have hval : SV.conc ρ (.agg (l.map .v)) = .agg l.toArray := by simp [SV.conc, concs_v]
        refine ⟨.agg (l.map .v), rfl, scs_v S l, _, h1, ?_⟩
        rw [hval]
        refine run_loadVar_agg hti ha hlen (fun j v hv => ?_)
        have hjl : j < l.length := by
          rcases Nat.lt_or_ge j l.length with h | h
          · exact h
          · rw [List.getElem?_eq_none h] at hv; cases hv
        have hg' : get vs (off + j) = some v := by
          rw [get_eq, ← hv, g2, List.getElem?_take_of_lt (by omega), List.getElem?_drop]
        have := hW.winCell hi hg'
        rw [Nat.add_assoc]; exact this
      · cases h
  · rename_i ob hnw hi
    split at h
    case h_2 => cases h
    rename_i cs hl
    obtain ⟨_, hsc, _⟩ := hW.mem i ob hi
    have hscs : SV.scs S cs := by cases ob <;> simp [SObj.list] at hl <;> (subst hl; exact hsc)
    split at h
    · rename_i ha
      split at h
      · rename_i c hg
        obtain rfl := Option.some.inj h
        exact ⟨c, rfl, scs_get hscs hg, _, h1, run_loadVar_scalar hti ha (hW.cell hi hl hg)⟩
      · cases h
    · rename_i ha
      split at h
      · rename_i l hg
        obtain rfl := Option.some.inj h
        obtain ⟨g1, g2⟩ := takeD_eq _ _ _ _ hg
        have hlen : (SV.concs ρ l).length = ti.size := by rw [concs_length, g2]; simp; omega
        have hsl : SV.scs S l := scs_of_mem hscs (fun x hx => by rw [g2] at hx; exact List.mem_of_mem_drop (List.mem_of_mem_take hx))
        refine ⟨.agg l, rfl, hsl, _, h1, ?_⟩
        refine run_loadVar_agg hti ha hlen (fun j v hv => ?_)
        rw [concs_map, List.getElem?_map] at hv
        cases hlj : l[j]? with
        | none => simp [hlj] at hv
        | some c =>
          simp [hlj] at hv
          subst hv
          have hjl : j < l.length := by
            rcases Nat.lt_or_ge j l.length with h | h
            · exact h
            · rw [List.getElem?_eq_none h] at hlj; cases hlj
          have hg' : get cs (off + j) = some c := by
            have hlt : l.length = ti.size := by rw [concs_length] at hlen; exact hlen
            rw [get_eq, ← hlj, g2, List.getElem?_take_of_lt (by omega), List.getElem?_drop]
          have := hW.cell hi hl hg'
          rw [Nat.add_assoc]; exact this
      · cases h
  · cases h
theorem opLoad_ok (hP : Tab.oks P tab) (hT : TmOk ρ T S a) (hW : WI w0 L ρ M S w) {t : TypeId} {x : Operand} {e : Eff} (h : opLoad tab T M t x = some e) (ho : o.op = .load t x) : Oc P a o w (EPost w0 L ρ M S n e) := by
  obtain ⟨v, rfl, hs, ad, h1, h2⟩ := opLoad_run hP hT hW h
  refine Oc.value (w' := w) (v := v.conc ρ) ?_ (EPost.same hW hs)
  simp [execOp, ho, Instr.loadAt, Instr.sureAddr, h1, h2]
end
end Go.Sx
