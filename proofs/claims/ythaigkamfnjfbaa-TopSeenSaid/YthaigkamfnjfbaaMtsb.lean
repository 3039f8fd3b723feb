/-
  Laws of the executor, and walks of functions (part 2). The conditions stand with each law.
-/
import Derived.Laws.StructEq
import Derived.Test.YthaigkamfnjfbaaMtsa
namespace Go.Sx
/-- What an operation does: a value (under an obligation); a new block; a block written over; a call of a function that only computes; a new block in place of a told one. -/
inductive Eff where
  | val (ob : Option Prop) (v : SV)
  | new (v : SV) (o : SObj)
  | wr (i : Nat) (o : SObj)
  | wrv (ob : Option Prop) (i : Nat) (o : SObj) (v : SV)
  | call (g : FuncId) (args : List SV) (bs : List Nat) (v : SV)
  | mv (ob : Option Prop) (j j2 : Nat) (v : SV) (o : SObj)
def Eff.obl : Eff → Prop
  | .val (some p) _ => p
  | .wrv (some p) _ _ _ => p
  | .mv (some p) _ _ _ _ => p
  | _ => True
def Eff.res : Eff → SV
  | .val _ v => v
  | .new v _ => v
  | .wr _ _ => .v undef
  | .wrv _ _ _ v => v
  | .call _ _ _ v => v
  | .mv _ _ _ v _ => v
def Eff.mem (M : Mem) (n : Nat) : Eff → Mem
  | .new _ o => upd M n o
  | .wr i o => upd M i o
  | .wrv _ i o _ => upd M i o
  | .mv _ j _ _ o => upd (upd M j (.pin [])) n o
  | _ => M
def Eff.dom (S : Nat → Prop) (n : Nat) : Eff → Nat → Prop
  | .new _ _ => fun j => S j ∨ j = n
  | .mv _ _ _ _ _ => fun j => S j ∨ j = n
  | _ => S
/-- The outcome of an operation whose effect is 'e', new blocks getting the number n. -/
def EPost (w0 : World) (L : List (Nat × Nat)) (ρ : Env) (M : Mem) (S : Nat → Prop) (n : Nat) (e : Eff) (v : Value) (w' : World) : Prop :=
  ∃ ρ', Env.agree S ρ ρ' ∧ v = e.res.conc ρ' ∧ e.res.sc (e.dom S n) ∧ WI w0 L ρ' (e.mem M n) (e.dom S n) w'
section
variable {P : Program} {tab : Tab} {w0 w : World} {L : List (Nat × Nat)} {ρ : Env} {T : Tm} {M : Mem} {S : Nat → Prop} {n : Nat} {a : Act} {o : Oper}
theorem EPost.same (hW : WI w0 L ρ M S w) {ob : Option Prop} {v : SV} (hv : v.sc S) : EPost w0 L ρ M S n (.val ob v) (v.conc ρ) w :=
  ⟨ρ, Env.agree.refl S ρ, rfl, hv, hW⟩
theorem concs_get (ρ : Env) : ∀ (l : List SV) (j : Nat) (c : SV), get l j = some c → (SV.concs ρ l)[j]? = some (c.conc ρ)
  | [], j, c, h => by simp [get] at h
  | a :: l, 0, c, h => by simp [get] at h; subst h; simp [SV.concs]
  | a :: l, j + 1, c, h => by simp only [get] at h; simp only [SV.concs, List.getElem?_cons_succ]; exact concs_get ρ l j c h
theorem scs_get {S : Nat → Prop} : ∀ {l : List SV} {j : Nat} {c : SV}, SV.scs S l → get l j = some c → c.sc S
  | [], j, c, _, h => by simp [get] at h
  | a :: l, 0, c, hs, h => by simp [get] at h; subst h; exact hs.1
  | a :: l, j + 1, c, hs, h => by simp only [get] at h; exact scs_get hs.2 h
theorem scs_of_mem {l l' : List SV} (h : SV.scs S l) (hm : ∀ x ∈ l', x ∈ l) : SV.scs S l' := by
  rw [scs_iff] at *; exact fun x hx => h x (hm x hx)
theorem scs_append {l l' : List SV} (h : SV.scs S l) (h' : SV.scs S l') : SV.scs S (l ++ l') := by
  rw [scs_iff] at *; intro x hx; rcases List.mem_append.1 hx with hx | hx
  · exact h x hx
  · exact h' x hx
theorem concs_append (ρ : Env) (l l' : List SV) : SV.concs ρ (l ++ l') = SV.concs ρ l ++ SV.concs ρ l' := by simp [concs_map]
theorem concs_length (ρ : Env) (l : List SV) : (SV.concs ρ l).length = l.length := by simp [concs_map]
theorem WI.cell (hW : WI w0 L ρ M S w) {i : Nat} {ob : SObj} {cs : List SV} {j : Nat} {c : SV} (hi : M i = some ob) (hl : ob.list = some cs) (hg : get cs j = some c) :
    w.cell? ⟨ρ.s i, ρ.o i + j, none⟩ = some (c.conc ρ) := by
  obtain ⟨_, _, h3⟩ := hW.mem i ob hi
  have hg' := concs_get ρ cs j c hg
  cases ob with
  | cells cs' t =>
    simp only [SObj.list, Option.some.injEq] at hl
    subst hl
    obtain ⟨h0, h4⟩ := h3
    simp [World.cell?, h4, h0, hg']
  | row e m xs t =>
    simp only [SObj.list, Option.some.injEq] at hl
    subst hl
    obtain ⟨h0, hlen, ⟨_, hz⟩ | ⟨cap, sp, _, _, h4⟩⟩ := h3
    · have : xs = [] := by subst hz; simpa using hlen
      subst this; simp [get] at hg
    · have hj : j < (SV.concs ρ xs).length := by
        rcases Nat.lt_or_ge j (SV.concs ρ xs).length with h | h
        · exact h
        · rw [List.getElem?_eq_none h] at hg'; cases hg'
      simp only [World.cell?, h4, h0, Nat.zero_add, Option.isSome_none, Bool.false_eq_true, if_false]
      rw [← Array.getElem?_toList]
      simp only [List.getElem?_append_left hj, hg']
  | obj x => simp [SObj.list] at hl
  | win vs => simp [SObj.list] at hl
  | rwin e n vs => simp [SObj.list] at hl
  | kmap pk nn l => simp [SObj.list] at hl
  | kwin pk l => simp [SObj.list] at hl
  | pin l => simp [SObj.list] at hl
  | swin e n f => simp [SObj.list] at hl
  | mid pre post cs' t =>
    simp only [SObj.list, Option.some.injEq] at hl
    subst hl
    obtain ⟨h0, h4⟩ := h3
    have hj : j < (SV.concs ρ cs').length := by
      rcases Nat.lt_or_ge j (SV.concs ρ cs').length with h | h
      · exact h
      · rw [List.getElem?_eq_none h] at hg'; cases hg'
    simp only [World.cell?, h4, h0, Option.isSome_none, Bool.false_eq_true, if_false]
    rw [← Array.getElem?_toList]
    simp only [List.append_assoc]
    rw [List.getElem?_append_right (by omega), show pre.length + j - pre.length = j by omega, List.getElem?_append_left hj, hg']
theorem WI.winCell (hW : WI w0 L ρ M S w) {i : Nat} {vs : List Value} {j : Nat} {x : Value} (hi : M i = some (.win vs)) (hg : get vs j = some x) :
    w.cell? ⟨ρ.s i, ρ.o i + j, none⟩ = some x := by
  obtain ⟨_, _, h1, h2, h3⟩ := hW.mem i _ hi
  rw [get_eq] at hg
  have := hW.keep _ h1 h2
  rw [← h3 j x hg]
  simp only [World.cell?, this]
/-- The block of told cells, where it has any: all of it. -/
theorem WI.rwinCell (hW : WI w0 L ρ M S w) {i e n : Nat} {vs : List Value} {j : Nat} {x : Value} (hi : M i = some (.rwin e n vs)) (hg : get vs j = some x) :
    w.cell? ⟨ρ.s i, ρ.o i + j, none⟩ = some x := by
  obtain ⟨_, _, hl, _, _, h⟩ := hW.mem i _ hi
  rw [get_eq] at hg
  have hjl : j < vs.length := by
    rcases Nat.lt_or_ge j vs.length with h | h
    · exact h
    · rw [List.getElem?_eq_none h] at hg; cases hg
  rcases h with h0 | ⟨_, h1, h2, h3⟩
  · subst h0; simp at hl; subst hl; simp at hjl
  · have := hW.keep _ h1 h2
    rw [← h3 j x hg]
    simp only [World.cell?, this]
theorem WI.block (hW : WI w0 L ρ M S w) {i : Nat} {ob : SObj} {cs : List SV} {j : Nat} {c : SV} (hi : M i = some ob) (hl : ob.list = some cs) (hg : get cs j = some c) :
    ∃ pre : List Value, ρ.o i = pre.length ∧ ob.occ ρ i ∧ ∃ t sp, w.heap[ρ.s i]? = some (.cells (pre ++ SV.concs ρ cs ++ sp).toArray t (0, 0)) ∧
      ∀ (cs' : List SV) (w' : World), cs'.length = cs.length → w'.heap[ρ.s i]? = some (.cells (pre ++ SV.concs ρ cs' ++ sp).toArray t (0, 0)) →
        (match ob with | .cells _ t => SObj.cells cs' t | .row e n _ t => SObj.row e n cs' t | .mid pre post _ t => SObj.mid pre post cs' t | x => x).holds w0 L ρ i w' := by
  obtain ⟨_, _, h3⟩ := hW.mem i ob hi
  cases ob with
  | cells cs0 t =>
    simp only [SObj.list, Option.some.injEq] at hl
    subst hl
    obtain ⟨h0, h4⟩ := h3
    exact ⟨[], h0, trivial, t, [], by simpa using h4, fun cs' w' _ hh => ⟨h0, by simpa using hh⟩⟩
  | row e m xs t =>
    simp only [SObj.list, Option.some.injEq] at hl
    subst hl
    obtain ⟨h0, hlen, ⟨_, hz⟩ | ⟨cap, sp, hh, hc, h4⟩⟩ := h3
    · have : xs = [] := by subst hz; simpa using hlen
      subst this; simp [get] at hg
    · exact ⟨[], h0, by simp [SObj.occ, hh], t, sp, h4, fun cs' w' hl' hh' => ⟨h0, by rw [hl']; exact hlen, .inr ⟨cap, sp, hh, hc, hh'⟩⟩⟩
  | obj x => simp [SObj.list] at hl
  | win vs => simp [SObj.list] at hl
  | rwin e n vs => simp [SObj.list] at hl
  | kmap pk nn l => simp [SObj.list] at hl
  | kwin pk l => simp [SObj.list] at hl
  | pin l => simp [SObj.list] at hl
  | swin e n f => simp [SObj.list] at hl
  | mid pre post cs0 t =>
    simp only [SObj.list, Option.some.injEq] at hl
    subst hl
    obtain ⟨h0, h4⟩ := h3
    exact ⟨pre, h0, trivial, t, post, h4, fun cs' w' _ hh => ⟨h0, hh⟩⟩
def opMove (T : Tm) (x : Operand) : Option Eff :=
  match ev T x with
  | some v => some (.val none v)
  | none => none
theorem opMove_ok (hT : TmOk ρ T S a) (hW : WI w0 L ρ M S w) {x : Operand} {e : Eff} (h : opMove T x = some e) (ho : o.op = .move x ∨ o.op = .assign x) : Oc P a o w (EPost w0 L ρ M S n e) := by
  unfold opMove at h
  split at h
  · rename_i v hv
    obtain rfl := Option.some.inj h
    obtain ⟨h1, h2⟩ := ev_ok hT hv
    refine Oc.value (w' := w) (v := v.conc ρ) ?_ (EPost.same hW h2)
    rcases ho with ho | ho <;> simp [execOp, ho, h1]
  · cases h
def opPick (T : Tm) (c x y : Operand) : Option Eff :=
  match ev T c with
  | some (.v (.bool b)) => match b with
    | true => opMove T x
    | false => opMove T y
  | _ => none
theorem opPick_ok (hT : TmOk ρ T S a) (hW : WI w0 L ρ M S w) {c x y : Operand} {e : Eff} (h : opPick T c x y = some e) (ho : o.op = .pick c x y) : Oc P a o w (EPost w0 L ρ M S n e) := by
  unfold opPick at h
  split at h
  · rename_i b hb
    obtain ⟨h1, _⟩ := ev_ok hT hb
    simp only [SV.conc] at h1
    cases b
    · dsimp only at h
      unfold opMove at h
      split at h
      · rename_i v hv
        obtain rfl := Option.some.inj h
        obtain ⟨h3, h4⟩ := ev_ok hT hv
        exact Oc.value (w' := w) (v := v.conc ρ) (by simp [execOp, ho, h1, h3, asBool]) (EPost.same hW h4)
      · cases h
    · dsimp only at h
      unfold opMove at h
      split at h
      · rename_i v hv
        obtain rfl := Option.some.inj h
        obtain ⟨h3, h4⟩ := ev_ok hT hv
        exact Oc.value (w' := w) (v := v.conc ρ) (by simp [execOp, ho, h1, h3, asBool]) (EPost.same hW h4)
      · cases h
  · cases h
theorem EPost.newCells (hW : WI w0 L ρ M S w) (hn : ¬ S n) {cs : List SV} (hs : SV.scs S cs) (t : TypeId) :
    EPost w0 L ρ M S n (.new (.ptr n 0) (.cells cs t)) (.pointer (some ⟨w.heap.size, 0, none⟩)) (w.alloc (.cells (SV.concs ρ cs).toArray t)) := by
  obtain ⟨h1, h2⟩ := hW.alloc (i := n) hn (o := .cells cs t) (x := .cells (SV.concs ρ cs).toArray t) hs (fun ρ' w' ha hs' ho' hh => ⟨ho', by rw [hs', hh, concs_agree ha cs hs]⟩)
  exact ⟨_, h2, by simp [Eff.res, SV.conc, Env.bind], .inr rfl, h1⟩
def opBox (T : Tm) (n : Nat) (t : TypeId) (x : Operand) : Option Eff :=
  match ev T x with
  | some v => some (.new (.ptr n 0) (.cells v.cells t))
  | none => none
theorem opBox_ok (hT : TmOk ρ T S a) (hW : WI w0 L ρ M S w) (hn : ¬ S n) {t : TypeId} {x : Operand} {e : Eff} (h : opBox T n t x = some e) (ho : o.op = .box t x) : Oc P a o w (EPost w0 L ρ M S n e) := by
  unfold opBox at h
  split at h
  · rename_i v hv
    obtain rfl := Option.some.inj h
    obtain ⟨h1, h2⟩ := ev_ok hT hv
    refine Oc.value ?_ (EPost.newCells hW hn (sc_cells h2) t)
    simp [execOp, ho, Instr.box, newVar, newRow, h1, conc_cells]
  · cases h
def opAlloc (tab : Tab) (n : Nat) (t : TypeId) : Option Eff :=
  match look tab t with
  | some ti => some (.new (.ptr n 0) (.cells (ti.zero.map .v) t))
  | none => none
theorem opAlloc_ok (hP : Tab.oks P tab) (hW : WI w0 L ρ M S w) (hn : ¬ S n) {t : TypeId} {e : Eff} (h : opAlloc tab n t = some e) (ho : o.op = .alloc t) : Oc P a o w (EPost w0 L ρ M S n e) := by
  unfold opAlloc at h
  split at h
  · rename_i ti hti
    obtain rfl := Option.some.inj h
    obtain ⟨z, hz, hc⟩ := run_zero (w := w) (Tab.ok_look hP hti)
    have := EPost.newCells hW hn (cs := ti.zero.map .v) (scs_v S _) t
    rw [concs_v] at this
    refine Oc.value ?_ this
    simp [execOp, ho, Instr.alloc, hz, newVar, newRow, hc]
  · cases h
def opLoad (tab : Tab) (T : Tm) (M : Mem) (t : TypeId) (x : Operand) : Option Eff :=
  match look tab t with
  | some ti => match ev T x with
    | some (.ptr i off) => match M i with
      | some (.win vs) => match ti.sh.isAgg with
        | false => match get vs off with
          | some c => some (.val none (.v c))
          | none => none
        | true => match takeD vs off ti.size with
          | some l => some (.val none (.agg (l.map .v)))
          | none => none
      | some (.rwin _ _ vs) => match ti.sh.isAgg with
        | false => match get vs off with
          | some c => some (.val none (.v c))
          | none => none
        | true => match takeD vs off ti.size with
          | some l => some (.val none (.agg (l.map .v)))
          | none => none
      | some ob => match ob.list with
        | some cs => match ti.sh.isAgg with
          | false => match get cs off with
            | some c => some (.val none c)
            | none => none
          | true => match takeD cs off ti.size with
            | some l => some (.val none (.agg l))
            | none => none
        | none => none
      | none => none
    | _ => none
  | none => none
theorem addr_add (g off j : Nat) : (⟨g, off, none⟩ : Addr).add j = ⟨g, off + j, none⟩ := by unfold Addr.add; split <;> simp_all
theorem run_loadVar_scalar {t : TypeId} {ti : TI} (h : TI.ok P t ti) (ha : ti.sh.isAgg = false) {ad : Addr} {v : Value} (hc : w.cell? ad = some v) : (loadVar t ad).run P w = .ok v w := by
  unfold loadVar
  simp only [Sem.run_bind, run_isAgg h, ha, Result.andThen_ok, Bool.false_eq_true, if_false, run_load, hc]
theorem run_loadVar_agg {t : TypeId} {ti : TI} (h : TI.ok P t ti) (ha : ti.sh.isAgg = true) {g off : Nat} {vs : List Value} (hl : vs.length = ti.size)
    (hc : ∀ j v, vs[j]? = some v → w.cell? ⟨g, off + j, none⟩ = some v) : (loadVar t ⟨g, off, none⟩).run P w = .ok (.agg vs.toArray) w := by
  unfold loadVar
  have := run_loadCells_list (P := P) w ⟨g, off, none⟩ vs (fun j v hv => by rw [addr_add]; exact hc j v hv)
  simp only [Sem.run_bind, run_isAgg h, ha, Result.andThen_ok, if_true, run_size h, ← hl, this, Sem.run_pure]
theorem opLoad_run (hP : Tab.oks P tab) (hT : TmOk ρ T S a) (hW : WI w0 L ρ M S w) {t : TypeId} {x : Operand} {e : Eff} (h : opLoad tab T M t x = some e) :
    ∃ v, e = .val none v ∧ v.sc S ∧ ∃ ad, a.eval x = .pointer (some ad) ∧ (loadVar t ad).run P w = .ok (v.conc ρ) w := by
  unfold opLoad at h
  split at h
  case h_2 => cases h
  rename_i ti hti
  have hti := Tab.ok_look hP hti
  split at h
  case h_2 => cases h
  rename_i i off hx
  obtain ⟨h1, _⟩ := ev_ok hT hx
  simp only [SV.conc] at h1
  split at h
  · rename_i vs hi
    split at h
    · rename_i ha
      split at h
      · rename_i c hg
        obtain rfl := Option.some.inj h
        exact ⟨.v c, rfl, trivial, _, h1, run_loadVar_scalar hti ha (hW.winCell hi hg)⟩
      · cases h
    · rename_i ha
      split at h
      · rename_i l hg
        obtain rfl := Option.some.inj h
        obtain ⟨g1, g2⟩ := takeD_eq _ _ _ _ hg
        have hlen : l.length = ti.size := by rw [g2]; simp; omega
        have hval : SV.conc ρ (.agg (l.map .v)) = .agg l.toArray := by simp [SV.conc, concs_v]
        refine ⟨.agg (l.map .v), rfl, scs_v S l, _, h1, ?_⟩
        rw [hval]
        refine run_loadVar_agg hti ha hlen (fun j v hv => ?_)
        have hjl : j < l.length := by
          rcases Nat.lt_or_ge j l.length with h | h
          · exact h
          · rw [List.getElem?_eq_none h] at hv; cases hv
        have hg' : get vs (off + j) = some v := by
          rw [get_eq, ← hv, g2, List.getElem?_take_of_lt (by omega), List.getElem?_drop]
        have := hW.winCell hi hg'
        rw [Nat.add_assoc]; exact this
      · cases h
  · rename_i e' n' vs hi
    split at h
    · rename_i ha
      split at h
      · rename_i c hg
        obtain rfl := Option.some.inj h
        exact ⟨.v c, rfl, trivial, _, h1, run_loadVar_scalar hti ha (hW.rwinCell hi hg)⟩
      · cases h
    · rename_i ha
      split at h
      · rename_i l hg
        obtain rfl := Option.some.inj h
        obtain ⟨g1, g2⟩ := takeD_eq _ _ _ _ hg
        have hlen : l.length = ti.size := by rw [g2]; simp; omega
        have hval : SV.conc ρ (.agg (l.map .v)) = .agg l.toArray := by simp [SV.conc, concs_v]
        refine ⟨.agg (l.map .v), rfl, scs_v S l, _, h1, ?_⟩
        rw [hval]
        refine run_loadVar_agg hti ha hlen (fun j v hv => ?_)
        have hjl : j < l.length := by
          rcases Nat.lt_or_ge j l.length with h | h
          · exact h
          · rw [List.getElem?_eq_none h] at hv; cases hv
        have hg' : get vs (off + j) = some v := by
          rw [get_eq, ← hv, g2, List.getElem?_take_of_lt (by omega), List.getElem?_drop]
        have := hW.rwinCell hi hg'
        rw [Nat.add_assoc]; exact this
      · cases h
  · rename_i ob hnw hnw2 hi
    split at h
    case h_2 => cases h
    rename_i cs hl
    obtain ⟨_, hsc, _⟩ := hW.mem i ob hi
    have hscs : SV.scs S cs := by cases ob <;> simp [SObj.list] at hl <;> (subst hl; exact hsc)
    split at h
    · rename_i ha
      split at h
      · rename_i c hg
        obtain rfl := Option.some.inj h
        exact ⟨c, rfl, scs_get hscs hg, _, h1, run_loadVar_scalar hti ha (hW.cell hi hl hg)⟩
      · cases h
    · rename_i ha
      split at h
      · rename_i l hg
        obtain rfl := Option.some.inj h
        obtain ⟨g1, g2⟩ := takeD_eq _ _ _ _ hg
        have hlen : (SV.concs ρ l).length = ti.size := by rw [concs_length, g2]; simp; omega
        have hsl : SV.scs S l := scs_of_mem hscs (fun x hx => by rw [g2] at hx; exact List.mem_of_mem_drop (List.mem_of_mem_take hx))
        refine ⟨.agg l, rfl, hsl, _, h1, ?_⟩
        refine run_loadVar_agg hti ha hlen (fun j v hv => ?_)
        rw [concs_map, List.getElem?_map] at hv
        cases hlj : l[j]? with
        | none => simp [hlj] at hv
        | some c =>
          simp [hlj] at hv
          subst hv
          have hjl : j < l.length := by
            rcases Nat.lt_or_ge j l.length with h | h
            · exact h
            · rw [List.getElem?_eq_none h] at hlj; cases hlj
          have hg' : get cs (off + j) = some c := by
            have hlt : l.length = ti.size := by rw [concs_length] at hlen; exact hlen
            rw [get_eq, ← hlj, g2, List.getElem?_take_of_lt (by omega), List.getElem?_drop]
          have := hW.cell hi hl hg'
          rw [Nat.add_assoc]; exact this
      · cases h
  · cases h
theorem opLoad_ok (hP : Tab.oks P tab) (hT : TmOk ρ T S a) (hW : WI w0 L ρ M S w) {t : TypeId} {x : Operand} {e : Eff} (h : opLoad tab T M t x = some e) (ho : o.op = .load t x) : Oc P a o w (EPost w0 L ρ M S n e) := by
  obtain ⟨v, rfl, hs, ad, h1, h2⟩ := opLoad_run hP hT hW h
  refine Oc.value (w' := w) (v := v.conc ρ) ?_ (EPost.same hW hs)
  simp [execOp, ho, Instr.loadAt, Instr.sureAddr, h1, h2]
end
end Go.Sx
namespace Go.Sx
section
variable {P : Program} {tab : Tab} {w0 w : World} {L : List (Nat × Nat)} {ρ : Env} {T : Tm} {M : Mem} {S : Nat → Prop} {n : Nat} {a : Act} {o : Oper}
theorem setRow_self {w : World} {g : Nat} {cur : Array Value} {t : TypeId} {fr : Nat × Nat} (hg : w.heap[g]? = some (.cells cur t fr)) : w.setRow g cur = w := by
  have hlt : g < w.heap.size := (Array.getElem?_eq_some_iff.1 hg).1
  have hv : w.heap[g] = .cells cur t fr := (Array.getElem?_eq_some_iff.1 hg).2
  unfold World.setRow
  cases w with
  | mk heap tape drawn os output =>
    congr 1
    apply Array.ext
    · simp
    · intro k h1 h2
      simp only [Array.getElem_modify]
      split
      · rename_i hk; subst hk; simp at hv; simp [hv]
      · rfl
theorem run_stores (g off : Nat) (t : TypeId) : ∀ (vs : List Value) (i : Nat) (cur : List Value) (w : World), w.heap[g]? = some (.cells cur.toArray t (0, 0)) → off + i + vs.length ≤ cur.length → (∀ v ∈ vs, v.oneCell' = true) →
    (storeCells ⟨g, off, none⟩ vs i).run P w = .ok () (w.setRow g (cur.take (off + i) ++ vs ++ cur.drop (off + i + vs.length)).toArray)
  | [], i, cur, w, hg, hl, _ => by
    simp only [storeCells, List.append_nil, List.length_nil, Nat.add_zero, List.take_append_drop, setRow_self hg]; rfl
  | v :: rest, i, cur, w, hg, hl, h1 => by
    simp only [List.length_cons] at hl
    have hi : off + i < cur.length := by omega
    have hcell : w.cell? ⟨g, off + i, none⟩ = some cur[off + i] := by simp [World.cell?, hg, hi]
    have hfro : w.frozen? ⟨g, off + i, none⟩ = false := by simp [World.frozen?, hg]
    have hst : (store ((⟨g, off, none⟩ : Addr).add i) v).run P w = .ok () (w.setRow g (cur.set (off + i) v).toArray) := by
      rw [addr_add, run_store P w _ v _ (h1 v (by simp)), hcell]
      simp [hfro, setCell_eq_setRow w g (off + i) cur.toArray t (0, 0) v hg]
    have ih := run_stores g off t rest (i + 1) (cur.set (off + i) v) (w.setRow g (cur.set (off + i) v).toArray) (setRow_heap w g cur.toArray _ t _ hg) (by simp; omega) (fun x hx => h1 x (by simp [hx]))
    simp only [storeCells, Sem.run_bind, hst, Result.andThen_ok, ih, setRow_setRow]
    have e1 : (cur.set (off + i) v).take (off + (i + 1)) = cur.take (off + i) ++ [v] := by
      rw [show off + (i + 1) = off + i + 1 by omega, List.take_succ_eq_append_getElem (by simp; omega), List.take_set, List.set_eq_of_length_le (by simp; omega)]
      simp
    have e2 : (cur.set (off + i) v).drop (off + (i + 1) + rest.length) = cur.drop (off + i + (rest.length + 1)) := by
      rw [show off + (i + 1) + rest.length = off + i + (rest.length + 1) by omega, List.drop_set_of_lt (by omega)]
    rw [e1, e2]; simp
def allOne : List SV → Bool
  | [] => true
  | v :: l => match v.one with
    | true => allOne l
    | false => false
theorem allOne_mem : ∀ {l : List SV}, allOne l = true → ∀ v ∈ l, v.one = true
  | [], _, v, hv => by cases hv
  | x :: l, h, v, hv => by
    unfold allOne at h
    split at h
    · rename_i hx
      rcases List.mem_cons.1 hv with rfl | hv
      · exact hx
      · exact allOne_mem h v hv
    · cases h
def SObj.put (ob : SObj) (cs : List SV) : SObj :=
  match ob with
  | .cells _ t => .cells cs t
  | .row e n _ t => .row e n cs t
  | .mid pre post _ t => .mid pre post cs t
  | x => x
def opStore (tab : Tab) (T : Tm) (M : Mem) (t : TypeId) (x y : Operand) : Option Eff :=
  match look tab t with
  | some ti => match ev T x with
    | some (.ptr i off) => match ev T y with
      | some v => match M i with
        | some ob => match ob.list with
          | some cs => match Nat.beq v.cells.length ti.size with
            | true => match allOne v.cells with
              | true => match v.cells with
                | [] => none
                | c :: r => match writeD cs off (c :: r) with
                  | some cs' => some (.wr i (ob.put cs'))
                  | none => none
              | false => none
            | false => none
          | none => none
        | none => none
      | none => none
    | _ => none
  | none => none
theorem opStore_ok (hP : Tab.oks P tab) (hT : TmOk ρ T S a) (hW : WI w0 L ρ M S w) {t : TypeId} {x y : Operand} {e : Eff} (h : opStore tab T M t x y = some e) (ho : o.op = .store t x y) : Oc P a o w (EPost w0 L ρ M S n e) := by
  unfold opStore at h
  split at h
  case h_2 => cases h
  rename_i ti hti
  have hti := Tab.ok_look hP hti
  split at h
  case h_2 => cases h
  rename_i i off hx
  obtain ⟨h1, _⟩ := ev_ok hT hx
  simp only [SV.conc] at h1
  split at h
  case h_2 => cases h
  rename_i v hv
  obtain ⟨h2, h3⟩ := ev_ok hT hv
  split at h
  case h_2 => cases h
  rename_i ob hi
  split at h
  case h_2 => cases h
  rename_i cs hl
  split at h
  case h_2 => cases h
  rename_i hsz
  have hsz := Nat.eq_of_beq_eq_true hsz
  split at h
  case h_2 => cases h
  rename_i hone
  split at h
  case h_1 => cases h
  rename_i c r hcr
  split at h
  case h_2 => cases h
  rename_i cs' hwd
  obtain rfl := Option.some.inj h
  rw [← hcr] at hwd
  obtain ⟨g1, g2⟩ := writeD_eq _ _ _ _ hwd
  have hpos : 0 < v.cells.length := by rw [hcr]; simp
  obtain ⟨c0, hc0⟩ : ∃ c0, get cs off = some c0 := by
    rw [get_eq]; exact ⟨cs[off]'(by omega), List.getElem?_eq_getElem (by omega)⟩
  obtain ⟨pre, b1, b2, t', sp, b3, b4⟩ := hW.block hi hl hc0
  have hcells : (v.conc ρ).cells = (SV.concs ρ v.cells).toArray := conc_cells ρ v
  have hst := run_stores (P := P) (ρ.s i) (pre.length + off) t' (SV.concs ρ v.cells) 0 (pre ++ SV.concs ρ cs ++ sp) w (by simpa using b3) (by simp [concs_length]; omega)
    (fun x hx => by rw [concs_map] at hx; obtain ⟨y, hy, rfl⟩ := List.mem_map.1 hx; exact one_conc (allOne_mem hone y hy))
  have hlist : List.take (pre.length + off + 0) (pre ++ SV.concs ρ cs ++ sp) ++ SV.concs ρ v.cells ++ List.drop (pre.length + off + 0 + (SV.concs ρ v.cells).length) (pre ++ SV.concs ρ cs ++ sp) = pre ++ SV.concs ρ cs' ++ sp := by
    rw [g2, concs_append, concs_append, concs_length, Nat.add_zero]
    have hlen : (SV.concs ρ cs).length = cs.length := concs_length ρ cs
    rw [List.append_assoc pre, List.take_length_add_append, Nat.add_assoc, List.drop_length_add_append, List.take_append_of_le_length (by omega), List.drop_append_of_le_length (by omega)]
    simp [concs_map]
  rw [hlist] at hst
  have hlen' : cs'.length = cs.length := by rw [g2]; simp; omega
  have hheap : (w.setRow (ρ.s i) (pre ++ SV.concs ρ cs' ++ sp).toArray).heap[ρ.s i]? = some (.cells (pre ++ SV.concs ρ cs' ++ sp).toArray t' (0, 0)) :=
    setRow_heap w _ _ _ _ _ b3
  obtain ⟨hSi, hsc, _⟩ := hW.mem i ob hi
  have hscs : SV.scs S cs := by cases ob <;> simp [SObj.list] at hl <;> (subst hl; exact hsc)
  have hscs' : SV.scs S cs' := by
    rw [g2]
    exact scs_append (scs_append (scs_of_mem hscs fun x hx => List.mem_of_mem_take hx) (sc_cells h3)) (scs_of_mem hscs fun x hx => List.mem_of_mem_drop hx)
  refine Oc.skip (w' := w.setRow (ρ.s i) (pre ++ SV.concs ρ cs' ++ sp).toArray) ?_ ⟨ρ, Env.agree.refl S ρ, rfl, trivial, ?_⟩
  · have hsize : ((v.conc ρ).cells).size = ti.size := by rw [hcells]; simp [concs_length, hsz]
    simp only [execOp, ho, Instr.storeAt, Instr.sureAddr, h1, h2, storeVar, Sem.run_bind, Sem.run_pure, Result.andThen_ok, run_size hti, hsize, ne_eq, not_true_eq_false, if_false]
    rw [b1, hcells]
    simp only [hst, Result.andThen_ok]
  · refine hW.write hi b2 ?_ hheap (fun hh => ?_) (fun k hk => setRow_other w _ _ _ hk) (setRow_size w _ _) rfl rfl rfl
    · cases ob <;> simp [SObj.list] at hl <;> exact hscs'
    · have := b4 cs' _ hlen' hh
      cases ob <;> exact this
def opFieldAddr (tab : Tab) (T : Tm) (s : TypeId) (x : Operand) (f : Nat) : Option Eff :=
  match look tab s with
  | some ti => match ti.sh with
    | .str fs => match get fs f with
      | some (off, sz, _) => match sz with
        | 0 => none
        | _ + 1 => match ev T x with
          | some (.ptr i o) => some (.val none (.ptr i (o + off)))
          | _ => none
      | none => none
    | _ => none
  | none => none
theorem str_fields {s : TypeId} {ti : TI} {fs : List (Nat × Nat × Bool)} {f : Nat} {off sz : Nat} {ag : Bool} (h : TI.ok P s ti) (hs : ti.sh = .str fs) (hf : get fs f = some (off, sz + 1, ag)) :
    ∃ fields fd i d, P.underlying s = some (.struct fields) ∧ fields[f]? = some fd ∧ fd.offset = off ∧ P.info? fd.type = some i ∧ i.size = sz + 1 ∧ P.underlying fd.type = some d ∧ isAggD d = ag := by
  obtain ⟨d, h1, h2⟩ := h.desc
  rw [hs] at h2
  cases d <;> simp only [shOf] at h2 <;> try (cases h2; done)
  case slice e => split at h2 <;> cases h2
  rename_i fields
  injection h2 with h2
  rw [get_eq, ← h2, List.getElem?_map] at hf
  cases hfd : fields.toList[f]? with
  | none => simp [hfd] at hf
  | some fd =>
    simp only [hfd, Option.map_some, Option.some.injEq, Prod.mk.injEq] at hf
    obtain ⟨e1, e2⟩ := hf
    unfold fieldSh at e2
    split at e2
    · rename_i i d hi hd
      simp only [Prod.mk.injEq] at e2
      exact ⟨fields, fd, i, d, h1, by simpa using hfd, e1, hi, e2.1, hd, e2.2⟩
    · simp at e2
theorem opFieldAddr_ok (hP : Tab.oks P tab) (hT : TmOk ρ T S a) (hW : WI w0 L ρ M S w) {s : TypeId} {x : Operand} {f : Nat} {e : Eff} (h : opFieldAddr tab T s x f = some e) (ho : o.op = .fieldAddr s x f) :
    Oc P a o w (EPost w0 L ρ M S n e) := by
  unfold opFieldAddr at h
  split at h
  case h_2 => cases h
  rename_i ti hti
  have hti := Tab.ok_look hP hti
  split at h
  case h_2 => cases h
  rename_i fs hfs
  split at h
  case h_2 => cases h
  rename_i off sz ag hf
  cases sz with
  | zero => simp at h
  | succ sz =>
  simp only at h
  split at h
  case h_2 => cases h
  rename_i i off0 hx
  obtain rfl := Option.some.inj h
  obtain ⟨h1, h2⟩ := ev_ok hT hx
  simp only [SV.conc] at h1
  obtain ⟨fields, fd, inf, d, q1, q2, q3, q4, q5, _, _⟩ := str_fields hti hfs hf
  refine Oc.value (w' := w) (v := SV.conc ρ (.ptr i (off0 + off))) ?_ (EPost.same hW (v := .ptr i (off0 + off)) h2)
  simp only [execOp, ho, Instr.fieldAt, Sem.run_bind, run_und q1, Result.andThen_ok, q2, Instr.sureAddr, h1, Sem.run_pure, fieldPlace, sizeOf, typeInfo, run_program, q4, q5, Nat.add_one_ne_zero, if_false, q3, addr_add, SV.conc, Nat.add_assoc]
def opField (tab : Tab) (T : Tm) (s : TypeId) (x : Operand) (f : Nat) : Option Eff :=
  match look tab s with
  | some ti => match ti.sh with
    | .str fs => match get fs f with
      | some (off, sz, ag) => match sz with
        | 0 => none
        | m + 1 => match ev T x with
          | some (.agg cs) => match ag with
            | true => match takeD cs off (m + 1) with
              | some l => some (.val none (.agg l))
              | none => none
            | false => match get cs off with
              | some c => some (.val none c)
              | none => none
          | _ => none
      | none => none
    | _ => none
  | none => none
theorem opField_ok (hP : Tab.oks P tab) (hT : TmOk ρ T S a) (hW : WI w0 L ρ M S w) {s : TypeId} {x : Operand} {f : Nat} {e : Eff} (h : opField tab T s x f = some e) (ho : o.op = .field s x f) :
    Oc P a o w (EPost w0 L ρ M S n e) := by
  unfold opField at h
  split at h
  case h_2 => cases h
  rename_i ti hti
  have hti := Tab.ok_look hP hti
  split at h
  case h_2 => cases h
  rename_i fs hfs
  split at h
  case h_2 => cases h
  rename_i off sz ag hf
  cases sz with
  | zero => simp at h
  | succ sz =>
  simp only at h
  split at h
  case h_2 => cases h
  rename_i cs hx
  obtain ⟨h1, h2⟩ := ev_ok hT hx
  simp only [SV.conc] at h1
  have h2' : SV.scs S cs := h2
  obtain ⟨fields, fd, inf, d, q1, q2, q3, q4, q5, q6, q7⟩ := str_fields hti hfs hf
  have hag : (Go.isAgg fd.type).run P w = .ok ag w := by
    unfold Go.isAgg
    simp only [Sem.run_bind, run_und q6, Result.andThen_ok, ← q7]
    cases d <;> rfl
  cases ag with
  | true =>
    simp only at h
    split at h
    · rename_i l hl
      obtain rfl := Option.some.inj h
      obtain ⟨g1, g2⟩ := takeD_eq _ _ _ _ hl
      have hsl : SV.scs S l := scs_of_mem h2' (fun x hx => by rw [g2] at hx; exact List.mem_of_mem_drop (List.mem_of_mem_take hx))
      refine Oc.value (w' := w) (v := SV.conc ρ (.agg l)) ?_ (EPost.same hW (v := .agg l) hsl)
      have hext : (SV.concs ρ cs).toArray.extract off (off + (sz + 1)) = (SV.concs ρ l).toArray := by
        rw [g2]; simp [concs_map, List.extract_eq_take_drop, List.map_take, List.map_drop]
      simp only [execOp, ho, Instr.field, Sem.run_bind, run_und q1, Result.andThen_ok, q2, h1, asAgg, Sem.run_pure, part, hag, if_true, sizeOf, typeInfo, run_program, q4, q5, q3, hext, SV.conc]
    · cases h
  | false =>
    simp only at h
    split at h
    · rename_i c hc
      obtain rfl := Option.some.inj h
      have hg := concs_get ρ cs off c hc
      refine Oc.value (w' := w) (v := SV.conc ρ c) ?_ (EPost.same hW (scs_get h2' hc))
      have hg' : (SV.concs ρ cs).toArray[off]? = some (c.conc ρ) := by simpa using hg
      simp only [execOp, ho, Instr.field, Sem.run_bind, run_und q1, Result.andThen_ok, q2, h1, asAgg, Sem.run_pure, part, hag, Bool.false_eq_true, if_false, q3, hg']
    · cases h
def opNil (T : Tm) (x : Operand) : Option Eff :=
  match ev T x with
  | some (.ptr i off) => some (.val none (.ptr i off))
  | some (.fn f caps) => some (.val none (.fn f caps))
  | some (.v (.pointer (some p))) => some (.val none (.v (.pointer (some p))))
  | some (.v (.func (.func f) first caps)) => some (.val none (.v (.func (.func f) first caps)))
  | _ => none
theorem opNil_ok (hT : TmOk ρ T S a) (hW : WI w0 L ρ M S w) {x : Operand} {e : Eff} (h : opNil T x = some e) (ho : o.op = .nilCheck x) : Oc P a o w (EPost w0 L ρ M S n e) := by
  unfold opNil at h
  split at h
  case h_5 => cases h
  all_goals
    rename_i hx
    obtain rfl := Option.some.inj h
    obtain ⟨h1, h2⟩ := ev_ok hT hx
    refine Oc.value (w' := w) ?_ (EPost.same hW h2)
    simp only [SV.conc] at h1 ⊢
    simp [execOp, ho, h1]
def opExtract (T : Tm) (x : Operand) (i : Nat) : Option Eff :=
  match ev T x with
  | some (.tup l) => match get l i with
    | some v => some (.val none v)
    | none => none
  | _ => none
theorem opExtract_ok (hT : TmOk ρ T S a) (hW : WI w0 L ρ M S w) {x : Operand} {i : Nat} {e : Eff} (h : opExtract T x i = some e) (ho : o.op = .extract x i) : Oc P a o w (EPost w0 L ρ M S n e) := by
  unfold opExtract at h
  split at h
  case h_2 => cases h
  rename_i l hx
  obtain ⟨h1, h2⟩ := ev_ok hT hx
  split at h
  case h_2 => cases h
  rename_i v hv
  obtain rfl := Option.some.inj h
  have h2' : SV.scs S l := h2
  refine Oc.value (w' := w) (v := v.conc ρ) ?_ (EPost.same hW (scs_get h2' hv))
  have hg : (SV.concs ρ l).toArray[i]? = some (v.conc ρ) := by simpa using concs_get ρ l i v hv
  simp only [SV.conc] at h1
  simp [execOp, ho, Instr.extract, h1, hg]
def opMakeFunc (T : Tm) (f : Fn) (first : Array Operand) (caps : Array Operand) : Option Eff :=
  match f with
  | .func g => match first.toList with
    | [] => match evs T caps.toList with
      | some vs => some (.val none (.fn g vs))
      | none => none
    | _ => none
  | _ => none
theorem opMakeFunc_ok (hT : TmOk ρ T S a) (hW : WI w0 L ρ M S w) {f : Fn} {first caps : Array Operand} {e : Eff} (h : opMakeFunc T f first caps = some e) (ho : o.op = .makeFunc f first caps) : Oc P a o w (EPost w0 L ρ M S n e) := by
  unfold opMakeFunc at h
  split at h
  case h_2 => cases h
  rename_i g
  split at h
  case h_2 => cases h
  rename_i hf
  split at h
  case h_2 => cases h
  rename_i vs hvs
  obtain rfl := Option.some.inj h
  obtain ⟨h1, h2⟩ := evs_ok hT hvs
  refine Oc.value (w' := w) (v := SV.conc ρ (.fn g vs)) ?_ (EPost.same hW (v := .fn g vs) h2)
  have e1 : first = #[] := by cases first; simpa using hf
  have e2 : caps.map a.eval = (SV.concs ρ vs).toArray := by apply Array.ext'; simp [h1]
  simp [execOp, ho, Instr.makeFunc, e1, e2, SV.conc]
end
end Go.Sx
namespace Go.Sx
section
variable {P : Program} {tab : Tab} {w0 w : World} {L : List (Nat × Nat)} {ρ : Env} {T : Tm} {M : Mem} {S : Nat → Prop} {n : Nat} {a : Act} {o : Oper}
def bitI (op : BinOp) (k : IntKind) (x y : Int) : Int :=
  match op with
  | .and => k.wrap ((BitVec.ofInt k.bits x &&& BitVec.ofInt k.bits y).toNat : Int)
  | .or => k.wrap ((BitVec.ofInt k.bits x ||| BitVec.ofInt k.bits y).toNat : Int)
  | _ => 0
def binI (op : BinOp) (k : IntKind) (x y : Int) : Option (Option Prop × Value) :=
  match op with
  | .add => some (none, .int k (k.wrap (x + y)))
  | .sub => some (none, .int k (k.wrap (x - y)))
  | .mul => some (none, .int k (k.wrap (x * y)))
  | .quo => some (some (y ≠ 0), .int k (k.wrap (x.tdiv y)))
  | .rem => some (some (y ≠ 0), .int k (x.tmod y))
  | .and => some (none, .int k (bitI .and k x y))
  | .or => some (none, .int k (bitI .or k x y))
  | .eql => some (none, .bool (x == y))
  | .neq => some (none, .bool (x != y))
  | .lss => some (none, .bool (decide (x < y)))
  | .leq => some (none, .bool (decide (x ≤ y)))
  | .gtr => some (none, .bool (decide (y < x)))
  | .geq => some (none, .bool (decide (y ≤ x)))
  | _ => none
def shI (op : BinOp) (k : IntKind) (x y : Int) : Option Value :=
  match op with
  | .shl => some (.int k (k.wrap (x * 2 ^ (min y.toNat k.bits))))
  | .shr => some (.int k (x.fdiv (2 ^ (min y.toNat k.bits))))
  | _ => none
def eqS : List SV → List SV → Option Bool
  | [], [] => some true
  | .v (.int k x) :: l, .v (.int k' y) :: l' => match decide (k = k') with
    | true => match eqS l l' with
      | some r => some (x == y && r)
      | none => none
    | false => none
  | _, _ => none
def eqNil : SV → SV → Option Bool
  | .v (.pointer none), .v (.pointer none) => some true
  | .ptr _ _, .v (.pointer none) => some false
  | .v (.pointer none), .ptr _ _ => some false
  | .v (.pointer (some _)), .v (.pointer none) => some false
  | _, _ => none
def eqNilF : SV → SV → Option Bool
  | .v .nilFunc, .v .nilFunc => some true
  | .fn _ _, .v .nilFunc => some false
  | .v (.func _ _ _), .v .nilFunc => some false
  | _, _ => none
def eqAny (ti : TI) (x y : SV) : Option Bool :=
  match ti.sh with
  | .bool => match x, y with
    | .v (.bool p), .v (.bool q) => some (p == q)
    | _, _ => none
  | .str _ => match ti.eqn, x, y with
    | some m, .agg xs, .agg ys => match Nat.beq xs.length m, Nat.beq ys.length m with
      | true, true => eqS xs ys
      | _, _ => none
    | _, _, _ => none
  | .ptr => eqNil x y
  | .fn => eqNilF x y
  | _ => none
def opBin (tab : Tab) (T : Tm) (op : BinOp) (t : TypeId) (x y : Operand) : Option Eff :=
  match ev T x, ev T y with
  | some (.v (.int k p)), some (.v (.int k' q)) => match op with
    | .shl => match shI .shl k p q with
      | some r => some (.val (some (0 ≤ q)) (.v r))
      | none => none
    | .shr => match shI .shr k p q with
      | some r => some (.val (some (0 ≤ q)) (.v r))
      | none => none
    | _ => match decide (k = k') with
      | true => match binI op k p q with
        | some (ob, r) => some (.val ob (.v r))
        | none => none
      | false => none
  | some u, some v => match look tab t with
    | some ti => match op with
      | .eql => match eqAny ti u v with
        | some b => some (.val none (.v (.bool b)))
        | none => none
      | .neq => match eqAny ti u v with
        | some b => some (.val none (.v (.bool !b)))
        | none => none
      | _ => none
    | none => none
  | _, _ => none
theorem shI_run {op : BinOp} (hop : op = .shl ∨ op = .shr) {k k' : IntKind} {p q : Int} {r : Value} (h : shI op k p q = some r) (hq : 0 ≤ q) : (Op.shift op k p k' q).run P w = .ok r w := by
  have hq' : ¬ q < 0 := by omega
  rcases hop with rfl | rfl <;> (simp only [shI, Option.some.injEq] at h; subst h; simp [Op.shift, hq'])
theorem binI_run {op : BinOp} {k : IntKind} {p q : Int} {ob : Option Prop} {r : Value} (h : binI op k p q = some (ob, r)) (hob : ∀ c, ob = some c → c) (t : TypeId) :
    (Go.binOp op t (.int k p) (.int k q)).run P w = .ok r w := by
  cases op <;> simp only [binI, Option.some.injEq, Prod.mk.injEq] at h <;> try (cases h; done)
  all_goals obtain ⟨rfl, rfl⟩ := h
  case quo => have := hob _ rfl; simp [Go.binOp, Op.intDiv, this]
  case rem => have := hob _ rfl; simp [Go.binOp, Op.intDiv, this]
  all_goals first
    | (simp [Go.binOp, Op.intArith]; done)
    | (simp [Go.binOp, Op.intCmp]; done)
    | (simp [Go.binOp, Op.intBits, bitI]; done)
theorem eqFields_run (P : Program) (w : World) (d : Nat) (ρ : Env) (X Y : List SV) : ∀ (fs : List Field) (i : Nat) (xs ys : List SV) (r : Bool), eqS xs ys = some r → xs.length = fs.length → X.drop i = xs → Y.drop i = ys →
    ((fs.zipIdx i).all fun (f, i) => f.name != "_" && f.offset == i && (match P.underlying f.type with | some (.int _) => true | _ => false)) = true →
    (Op.eqFields (d + 1) (SV.concs ρ X).toArray (SV.concs ρ Y).toArray fs).run P w = .ok r w
  | [], i, xs, ys, r, h, hl, _, _, _ => by
    cases xs with
    | cons _ _ => simp at hl
    | nil =>
      cases ys with
      | nil => simp [eqS] at h; subst h; simp [Op.eqFields]
      | cons _ _ => simp [eqS] at h
  | f :: fs, i, xs, ys, r, h, hl, hX, hY, hall => by
    cases xs with
    | nil => simp at hl
    | cons x xs =>
    cases ys with
    | nil => simp [eqS] at h
    | cons y ys =>
    simp only [List.zipIdx_cons, List.all_cons, Bool.and_eq_true, bne_iff_ne, ne_eq, beq_iff_eq] at hall
    obtain ⟨⟨⟨hn, hoff⟩, hty⟩, hrest⟩ := hall
    obtain ⟨k, p, k', q, r', rfl, rfl, h', rfl⟩ : ∃ k p k' q r', x = .v (.int k p) ∧ y = .v (.int k' q) ∧ (k = k' ∧ eqS xs ys = some r') ∧ r = (p == q && r') := by
      unfold eqS at h
      split at h
      · rename_i e1 e2; simp at e1
      · rename_i k p l k' q l' e1 e2
        injection e1 with e1 e1'; injection e2 with e2 e2'
        subst e1 e1' e2 e2'
        split at h
        · rename_i hk
          cases hr : eqS xs ys with
          | none => simp [hr] at h
          | some r' => simp [hr] at h; exact ⟨k, p, k', q, r', rfl, rfl, ⟨of_decide_eq_true hk, rfl⟩, h.symm⟩
        · cases h
      · cases h
    obtain ⟨rfl, h'⟩ := h'
    have gx : X[i]? = some (.v (.int k p)) := by rw [← Nat.add_zero i, ← List.getElem?_drop, hX]; rfl
    have gy : Y[i]? = some (.v (.int k q)) := by rw [← Nat.add_zero i, ← List.getElem?_drop, hY]; rfl
    cases hu : P.underlying f.type with
    | none => simp [hu] at hty
    | some dd =>
    cases dd with
    | int kk =>
      have hag : (Go.isAgg f.type).run P w = .ok false w := by simp [Go.isAgg, run_und hu]
      have px : (part f.type (SV.concs ρ X).toArray i).run P w = .ok (.int k p) w := by
        simp [part, hag, concs_map, gx, SV.conc]
      have py : (part f.type (SV.concs ρ Y).toArray i).run P w = .ok (.int k q) w := by
        simp [part, hag, concs_map, gy, SV.conc]
      subst hoff
      have heq := run_equalIn_int (P := P) w d f.type k kk p q hu
      have ih := eqFields_run P w d ρ X Y fs (f.offset + 1) xs ys r' h' (by simpa using hl) (by rw [← List.drop_drop, hX]; rfl) (by rw [← List.drop_drop, hY]; rfl) hrest
      simp only [Op.eqFields, ne_eq, hn, not_false_eq_true, if_true, Sem.run_bind, px, py, Result.andThen_ok, heq, Sem.run_ite, Sem.run_pure]
      by_cases hpq : p = q
      · subst hpq; simpa using ih
      · simp [hpq]
    | _ => simp [hu] at hty
theorem sh_desc {d : TypeDesc} {P : Program} : (shOf P d = .bool → d = .bool) ∧ (shOf P d = .ptr → ∃ e, d = .pointer e) ∧ (shOf P d = .fn → ∃ p r v, d = .func p r v) ∧
    (∀ k, shOf P d = .int k → d = .int k) ∧ (∀ e m b, shOf P d = .slc e m b → ∃ i, d = .slice e ∧ P.info? e = some i ∧ i.size = m ∧ i.bytes = b) ∧ (∀ l m g, shOf P d = .arr l m g → ∃ e, d = .array l e ∧ (fieldSh P e) = (m, g)) ∧ (shOf P d = .string → d = .string) := by
  cases d <;> simp [shOf]
  case slice e =>
    cases hi : P.info? e with
    | none => simp
    | some i =>
      simp
      exact ⟨i, hi, rfl, rfl⟩
theorem eqNil_run {t e : TypeId} (hd : P.underlying t = some (.pointer e)) {x y : SV} {b : Bool} (h : eqNil x y = some b) (d : Nat) : (Op.equalIn (d + 1) t (x.conc ρ) (y.conc ρ)).run P w = .ok b w := by
  unfold eqNil at h
  split at h <;> first
    | (obtain rfl := Option.some.inj h; simp [SV.conc, Op.equalIn, run_und hd]; done)
    | cases h
theorem eqNilF_run {t : TypeId} {p r : Array TypeId} {v : Bool} (hd : P.underlying t = some (.func p r v)) {x y : SV} {b : Bool} (h : eqNilF x y = some b) (d : Nat) : (Op.equalIn (d + 1) t (x.conc ρ) (y.conc ρ)).run P w = .ok b w := by
  unfold eqNilF at h
  split at h <;> first
    | (obtain rfl := Option.some.inj h; simp [SV.conc, Op.equalIn, run_und hd]; done)
    | cases h
theorem eq_of_equalIn {t : TypeId} {u v : Value} {b : Bool} (h : ∀ d, (Op.equalIn (d + 1) t u v).run P w = .ok b w) (X Y : Operand)
    (hg : ∀ op, (eqGuard op t X Y u v).run P w = .ok () w) (h1 : Go.binOp .eql t u v = (Op.equal t u v >>= fun r => pure (.bool r))) (h2 : Go.binOp .neq t u v = (Op.equal t u v >>= fun r => pure (.bool !r))) :
    (eqGuard .eql t X Y u v >>= fun _ => Go.binOp .eql t u v).run P w = .ok (.bool b) w ∧ (eqGuard .neq t X Y u v >>= fun _ => Go.binOp .neq t u v).run P w = .ok (.bool !b) w := by
  have he : (Op.equal t u v).run P w = .ok b w := h 9999
  constructor
  · rw [Sem.run_bind, hg, Result.andThen_ok, h1, Sem.run_bind, he]; rfl
  · rw [Sem.run_bind, hg, Result.andThen_ok, h2, Sem.run_bind, he]; rfl
theorem eqAny_run {t : TypeId} {ti : TI} (hti : TI.ok P t ti) {x y : SV} {b : Bool} (h : eqAny ti x y = some b) (X Y : Operand) :
    (eqGuard .eql t X Y (x.conc ρ) (y.conc ρ) >>= fun _ => Go.binOp .eql t (x.conc ρ) (y.conc ρ)).run P w = .ok (.bool b) w ∧
    (eqGuard .neq t X Y (x.conc ρ) (y.conc ρ) >>= fun _ => Go.binOp .neq t (x.conc ρ) (y.conc ρ)).run P w = .ok (.bool !b) w := by
  obtain ⟨d, hd, hsh⟩ := hti.desc
  unfold eqAny at h
  split at h
  · -- booleans
    rename_i hb
    obtain rfl := sh_desc.1 (hsh.trans hb)
    split at h
    · rename_i p q
      obtain rfl := Option.some.inj h
      constructor <;> simp [eqGuard, SV.conc, Go.binOp, Op.equal, Op.maxDepth, run_equalIn_bool' w _ t p q hd]
    · cases h
  · -- structs of integers
    rename_i fs hfs
    split at h
    case h_2 => cases h
    rename_i m xs ys hm
    split at h
    case h_2 => cases h
    rename_i hx hy
    have hx := Nat.eq_of_beq_eq_true hx
    have hq := hti.eq
    rw [hm] at hq
    simp only [Option.all_some, eqInts, Bool.and_eq_true, Bool.not_eq_true'] at hq
    obtain ⟨⟨q1, q2⟩, q3⟩ := hq
    cases d <;> try (simp [hd] at q3; done)
    rename_i fields
    simp only [hd, Bool.and_eq_true, beq_iff_eq] at q3
    have hf : P.fieldsOf t = fields := by simp [Program.fieldsOf, hd]
    have hrun := eqFields_run P w 9998 ρ xs ys fields.toList 0 xs ys b h (by rw [hx]; exact q3.1.symm) rfl rfl q3.2
    have he : (Op.equalIn 10000 t (.agg (SV.concs ρ xs).toArray) (.agg (SV.concs ρ ys).toArray)).run P w = .ok b w := by
      rw [run_equalIn_struct w 9999 t _ _ (by rw [hf]; exact hd) q1, hf]; exact hrun
    constructor
    · simp only [SV.conc, Sem.run_bind, run_eqGuard_agg w .eql t X Y _ _ q2, Result.andThen_ok, run_eql_struct, he]
    · simp only [SV.conc, Sem.run_bind, run_eqGuard_agg w .neq t X Y _ _ q2, Result.andThen_ok, run_neq_struct, he]
  · rename_i hb
    obtain ⟨e, rfl⟩ := sh_desc.2.1 (hsh.trans hb)
    have hrun := fun d => eqNil_run (ρ := ρ) (w := w) hd h d
    unfold eqNil at h
    split at h <;> first
      | exact eq_of_equalIn hrun X Y (fun op => by cases op <;> rfl) rfl rfl
      | cases h
  · rename_i hb
    obtain ⟨p, r, v, rfl⟩ := sh_desc.2.2.1 (hsh.trans hb)
    have hrun := fun d => eqNilF_run (ρ := ρ) (w := w) hd h d
    unfold eqNilF at h
    split at h <;> first
      | exact eq_of_equalIn hrun X Y (fun op => by cases op <;> rfl) rfl rfl
      | cases h
  · cases h
theorem opBin_ok (hP : Tab.oks P tab) (hT : TmOk ρ T S a) (hW : WI w0 L ρ M S w) {op : BinOp} {t t2 : TypeId} {x y : Operand} {e : Eff} (h : opBin tab T op t x y = some e) (hob : e.obl) (ho : o.op = .binOp op t x y t2) :
    Oc P a o w (EPost w0 L ρ M S n e) := by
  unfold opBin at h
  split at h
  · rename_i k p k' q hx hy
    obtain ⟨h1, _⟩ := ev_ok hT hx
    obtain ⟨h2, _⟩ := ev_ok hT hy
    simp only [SV.conc] at h1 h2
    have hg : ∀ op', (eqGuard op' t x y (.int k p) (.int k' q)).run P w = .ok () w := by intro op'; cases op' <;> simp [eqGuard]
    split at h
    · split at h
      · rename_i r hr
        obtain rfl := Option.some.inj h
        exact Oc.value (w' := w) (v := r) (by simp [execOp, ho, h1, h2, hg, Go.binOp, shI_run (.inl rfl) hr hob]) (EPost.same hW (v := .v r) trivial)
      · cases h
    · split at h
      · rename_i r hr
        obtain rfl := Option.some.inj h
        exact Oc.value (w' := w) (v := r) (by simp [execOp, ho, h1, h2, hg, Go.binOp, shI_run (.inr rfl) hr hob]) (EPost.same hW (v := .v r) trivial)
      · cases h
    · split at h
      · rename_i hk
        obtain rfl := of_decide_eq_true hk
        split at h
        · rename_i ob r hr
          obtain rfl := Option.some.inj h
          exact Oc.value (w' := w) (v := r) (by simp [execOp, ho, h1, h2, hg, binI_run hr (fun c hc => by subst hc; exact hob)]) (EPost.same hW (v := .v r) trivial)
        · cases h
      · cases h
  · rename_i u v hnn hx hy
    obtain ⟨h1, _⟩ := ev_ok hT hx
    obtain ⟨h2, _⟩ := ev_ok hT hy
    split at h
    case h_2 => cases h
    rename_i ti hti
    have hti := Tab.ok_look hP hti
    split at h
    · split at h
      · rename_i b hb
        obtain rfl := Option.some.inj h
        have := (eqAny_run (ρ := ρ) (w := w) hti hb x y).1
        exact Oc.value (w' := w) (v := .bool b) (by simp only [execOp, ho, h1, h2, Sem.run_bind, Sem.run_pure] at this ⊢; simp only [this, Result.andThen_ok]) (EPost.same hW (v := .v (.bool b)) trivial)
      · cases h
    · split at h
      · rename_i b hb
        obtain rfl := Option.some.inj h
        have := (eqAny_run (ρ := ρ) (w := w) hti hb x y).2
        exact Oc.value (w' := w) (v := .bool !b) (by simp only [execOp, ho, h1, h2, Sem.run_bind, Sem.run_pure] at this ⊢; simp only [this, Result.andThen_ok]) (EPost.same hW (v := .v (.bool !b)) trivial)
      · cases h
    · cases h
  · cases h
def opUn (T : Tm) (op : UnOp) (x : Operand) : Option Eff :=
  match op with
  | .not => match ev T x with
    | some (.v (.bool b)) => some (.val none (.v (.bool !b)))
    | _ => none
  | .neg => match ev T x with
    | some (.v (.int k p)) => some (.val none (.v (.int k (k.wrap (-p)))))
    | _ => none
  | _ => none
theorem opUn_ok (hT : TmOk ρ T S a) (hW : WI w0 L ρ M S w) {op : UnOp} {t : TypeId} {x : Operand} {e : Eff} (h : opUn T op x = some e) (ho : o.op = .unOp op t x) : Oc P a o w (EPost w0 L ρ M S n e) := by
  unfold opUn at h
  split at h
  · split at h
    · rename_i b hx
      obtain rfl := Option.some.inj h
      obtain ⟨h1, _⟩ := ev_ok hT hx
      simp only [SV.conc] at h1
      exact Oc.value (w' := w) (v := .bool !b) (by simp [execOp, ho, Op.unary, h1]) (EPost.same hW (v := .v (.bool !b)) trivial)
    · cases h
  · split at h
    · rename_i k p hx
      obtain rfl := Option.some.inj h
      obtain ⟨h1, _⟩ := ev_ok hT hx
      simp only [SV.conc] at h1
      exact Oc.value (w' := w) (v := .int k (k.wrap (-p))) (by simp [execOp, ho, Op.unary, h1, Op.intArith]) (EPost.same hW (v := .v (.int k (k.wrap (-p)))) trivial)
    · cases h
  · cases h
def opConv (tab : Tab) (T : Tm) (src dst : TypeId) (x : Operand) : Option Eff :=
  match look tab dst with
  | some ti => match ti.sh with
    | .int k => match look tab src with
      | some _ => match ev T x with
        | some (.v (.int _ p)) => some (.val none (.v (.int k (k.wrap p))))
        | _ => none
      | none => none
    | _ => none
  | none => none
theorem opConv_ok (hP : Tab.oks P tab) (hT : TmOk ρ T S a) (hW : WI w0 L ρ M S w) {src dst : TypeId} {x : Operand} {e : Eff} (h : opConv tab T src dst x = some e) (ho : o.op = .convert src dst x) : Oc P a o w (EPost w0 L ρ M S n e) := by
  unfold opConv at h
  split at h
  case h_2 => cases h
  rename_i ti hti
  have hti := Tab.ok_look hP hti
  split at h
  case h_2 => cases h
  rename_i k hk
  split at h
  case h_2 => cases h
  rename_i ts hts
  have hts := Tab.ok_look hP hts
  split at h
  case h_2 => cases h
  rename_i k' p hx
  obtain rfl := Option.some.inj h
  obtain ⟨h1, _⟩ := ev_ok hT hx
  simp only [SV.conc] at h1
  obtain ⟨d, hd, hsh⟩ := hti.desc
  obtain ⟨d', hd', _⟩ := hts.desc
  obtain rfl := sh_desc.2.2.2.1 k (hsh.trans hk)
  refine Oc.value (w' := w) (v := .int k (k.wrap p)) ?_ (EPost.same hW (v := .v (.int k (k.wrap p))) trivial)
  simp only [execOp, ho, convert, h1, Sem.run_bind, run_und hd, run_und hd', Result.andThen_ok]
  cases d' <;> simp [Conv.intToInt]
/-- The cell at which element 'j' of 'sz' cells begins. -/
def idx (j : Int) (sz : Nat) : Nat :=
  match sz with
  | 1 => j.toNat
  | _ => j.toNat * sz
theorem idx_eq (j : Int) (sz : Nat) : idx j sz = j.toNat * sz := by
  unfold idx; split <;> simp
def opIndexAddr (tab : Tab) (T : Tm) (M : Mem) (t : TypeId) (x i : Operand) : Option Eff :=
  match look tab t with
  | some ti => match ev T i with
    | some (.v (.int _ j)) => match ti.sh with
      | .slc _ sz _ => match ev T x with
        | some (.slc b off len _) => some (.val (some (0 ≤ j ∧ j < (len : Int))) (.ptr b (off + idx j sz)))
        | some (.opq b) => match M b with
          | some (.row e m _ _) => match Nat.beq e sz with
            | true => some (.val (some (0 ≤ j ∧ j < (m : Int))) (.ptr b (idx j sz)))
            | false => none
          | some (.rwin e m _) => match Nat.beq e sz with
            | true => some (.val (some (0 ≤ j ∧ j < (m : Int))) (.ptr b (idx j sz)))
            | false => none
          | _ => none
        | _ => none
      | .arr len sz _ => match sz with
        | 0 => none
        | sz + 1 => match ev T x with
          | some (.ptr b off) => some (.val (some (0 ≤ j ∧ j < (len : Int))) (.ptr b (off + idx j (sz + 1))))
          | _ => none
      | _ => none
    | _ => none
  | none => none
theorem run_szOf {e : TypeId} {i : TypeInfo} (h : P.info? e = some i) : (sizeOf e).run P w = .ok i.size w := by simp [sizeOf, typeInfo, h]
theorem opIndexAddr_ok (hP : Tab.oks P tab) (hT : TmOk ρ T S a) (hW : WI w0 L ρ M S w) {t : TypeId} {x i : Operand} {e : Eff} (h : opIndexAddr tab T M t x i = some e) (hob : e.obl) (ho : o.op = .indexAddr t x i) :
    Oc P a o w (EPost w0 L ρ M S n e) := by
  unfold opIndexAddr at h
  split at h
  case h_2 => cases h
  rename_i ti hti
  have hti := Tab.ok_look hP hti
  obtain ⟨d, hd, hsh⟩ := hti.desc
  split at h
  case h_2 => cases h
  rename_i k j hi
  obtain ⟨h1, _⟩ := ev_ok hT hi
  simp only [SV.conc] at h1
  split at h
  case h_3 => cases h
  · rename_i el sz by_ hs
    obtain ⟨inf, rfl, g2, g3, _⟩ := sh_desc.2.2.2.2.1 el sz by_ (hsh.trans hs)
    split at h
    · rename_i b off len cap hx
      obtain rfl := Option.some.inj h
      obtain ⟨h2, h3⟩ := ev_ok hT hx
      simp only [SV.conc] at h2
      have hob' : 0 ≤ j ∧ j < (len : Int) := hob
      refine Oc.value (w' := w) (v := SV.conc ρ (.ptr b (off + idx j sz))) ?_ (EPost.same hW (v := .ptr b (off + idx j sz)) h3)
      simp [execOp, ho, Instr.indexAt, h1, h2, asIntOf, run_und hd, hob', run_szOf g2, g3, addr_add, SV.conc, idx_eq, Nat.add_assoc]
    · rename_i b hx
      obtain ⟨h2, h3⟩ := ev_ok hT hx
      split at h
      case h_3 => cases h
      · rename_i e' m xs ty hb
        split at h
        case h_2 => cases h
        rename_i hsz
        have hsz := Nat.eq_of_beq_eq_true hsz
        obtain rfl := Option.some.inj h
        have hob' : 0 ≤ j ∧ j < (m : Int) := hob
        obtain ⟨_, _, r0, rlen, rr⟩ := hW.mem b _ hb
        rcases rr with ⟨_, rm⟩ | ⟨cap, sp, rh, _, _⟩
        · subst rm; omega
        simp only [SV.conc, rh] at h2
        refine Oc.value (w' := w) (v := SV.conc ρ (.ptr b (idx j sz))) ?_ (EPost.same hW (v := .ptr b (idx j sz)) h3)
        simp [execOp, ho, Instr.indexAt, h1, h2, asIntOf, run_und hd, hob', run_szOf g2, g3, addr_add, SV.conc, idx_eq, r0]
      · rename_i e' m vs hb
        split at h
        case h_2 => cases h
        rename_i hsz
        obtain rfl := Option.some.inj h
        have hob' : 0 ≤ j ∧ j < (m : Int) := hob
        obtain ⟨_, _, _, rm, _, rr⟩ := hW.mem b _ hb
        rcases rr with rr | ⟨rp, _⟩
        · subst rr; omega
        simp only [SV.conc, rp, rm] at h2
        refine Oc.value (w' := w) (v := SV.conc ρ (.ptr b (idx j sz))) ?_ (EPost.same hW (v := .ptr b (idx j sz)) h3)
        simp [execOp, ho, Instr.indexAt, h1, h2, asIntOf, run_und hd, hob', run_szOf g2, g3, addr_add, SV.conc, idx_eq]
    · cases h
  · rename_i len sz ag hs
    obtain ⟨el, rfl, g2⟩ := sh_desc.2.2.2.2.2.1 len sz ag (hsh.trans hs)
    cases sz with
    | zero => simp at h
    | succ sz =>
    simp only at h
    split at h
    case h_2 => cases h
    rename_i b off hx
    obtain rfl := Option.some.inj h
    obtain ⟨h2, h3⟩ := ev_ok hT hx
    simp only [SV.conc] at h2
    have hob' : 0 ≤ j ∧ j < (len : Int) := hob
    obtain ⟨inf, g4, g5⟩ : ∃ inf, P.info? el = some inf ∧ inf.size = sz + 1 := by
      unfold fieldSh at g2
      split at g2
      · rename_i i d' hi' _
        simp only [Prod.mk.injEq] at g2
        exact ⟨i, hi', g2.1⟩
      · simp at g2
    refine Oc.value (w' := w) (v := SV.conc ρ (.ptr b (off + idx j (sz + 1)))) ?_ (EPost.same hW (v := .ptr b (off + idx j (sz + 1))) h3)
    simp [execOp, ho, Instr.indexAt, h1, h2, asIntOf, run_und hd, hob', run_szOf g4, g5, addr_add, SV.conc, idx_eq, Nat.add_assoc, Instr.sureAddr]
end
end Go.Sx
