/-
  A small symbolic executor over the model (part D): stores, addresses, arithmetic, calls: the effect of single operations, each with the law that it is the model's own.
  No condition: these are definitions and laws that hold of every program.
-/
import Derived.Test.YtoipnojibkjjnaaSxC
namespace Go.Sx
section
variable {P : Program} {tab : Tab} {w0 w : World} {L : List (Nat × Nat)} {ρ : Env} {T : Tm} {M : Mem} {S : Nat → Prop} {n : Nat} {a : Act} {o : Oper}

theorem setRow_self {w : World} {g : Nat} {cur : Array Value} {t : TypeId} {fr : Nat × Nat} (hg : w.heap[g]? = some (.cells cur t fr)) : w.setRow g cur = w := by
  have hlt : g < w.heap.size := (Array.getElem?_eq_some_iff.1 hg).1
  have hv : w.heap[g] = .cells cur t fr := (Array.getElem?_eq_some_iff.1 hg).2
  unfold World.setRow
  cases w with
  | mk heap tape drawn os output =>
    congr 1
    apply Array.ext
    · simp
    · intro k h1 h2
      simp only [Array.getElem_modify]
      split
      · rename_i hk; subst hk; simp at hv; simp [hv]
      · rfl

theorem run_stores (g off : Nat) (t : TypeId) : ∀ (vs : List Value) (i : Nat) (cur : List Value) (w : World), w.heap[g]? = some (.cells cur.toArray t (0, 0)) → off + i + vs.length ≤ cur.length → (∀ v ∈ vs, v.oneCell' = true) →
    (storeCells ⟨g, off, none⟩ vs i).run P w = .ok () (w.setRow g (cur.take (off + i) ++ vs ++ cur.drop (off + i + vs.length)).toArray)
  | [], i, cur, w, hg, hl, _ => by
    simp only [storeCells, List.append_nil, List.length_nil, Nat.add_zero, List.take_append_drop, setRow_self hg]; rfl
  | v :: rest, i, cur, w, hg, hl, h1 => by
    simp only [List.length_cons] at hl
    have hi : off + i < cur.length := by omega
    have hcell : w.cell? ⟨g, off + i, none⟩ = some cur[off + i] := by simp [World.cell?, hg, hi]
    have hfro : w.frozen? ⟨g, off + i, none⟩ = false := by simp [World.frozen?, hg]
    have hst : (store ((⟨g, off, none⟩ : Addr).add i) v).run P w = .ok () (w.setRow g (cur.set (off + i) v).toArray) := by
      rw [addr_add, run_store P w _ v _ (h1 v (by simp)), hcell]
      simp [hfro, setCell_eq_setRow w g (off + i) cur.toArray t (0, 0) v hg]
    have ih := run_stores g off t rest (i + 1) (cur.set (off + i) v) (w.setRow g (cur.set (off + i) v).toArray) (setRow_heap w g cur.toArray _ t _ hg) (by simp; omega) (fun x hx => h1 x (by simp [hx]))
    simp only [storeCells, Sem.run_bind, hst, Result.andThen_ok, ih, setRow_setRow]
    have e1 : (cur.set (off + i) v).take (off + (i + 1)) = cur.take (off + i) ++ [v] := by
      rw [show off + (i + 1) = off + i + 1 by omega, List.take_succ_eq_append_getElem (by simp; omega), List.take_set, List.set_eq_of_length_le (by simp; omega)]
      simp
    have e2 : (cur.set (off + i) v).drop (off + (i + 1) + rest.length) = cur.drop (off + i + (rest.length + 1)) := by
      rw [show off + (i + 1) + rest.length = off + i + (rest.length + 1) by omega, List.drop_set_of_lt (by omega)]
    rw [e1, e2]; simp

def allOne : List SV → Bool
  | [] => true
  | v :: l => match v.one with
    | true => allOne l
    | false => false
theorem allOne_mem : ∀ {l : List SV}, allOne l = true → ∀ v ∈ l, v.one = true
  | [], _, v, hv => by cases hv
  | x :: l, h, v, hv => by
    unfold allOne at h
    split at h
    · rename_i hx
      rcases List.mem_cons.1 hv with rfl | hv
      · exact hx
      · exact allOne_mem h v hv
    · cases h

def SObj.put (ob : SObj) (cs : List SV) : SObj :=
  match ob with
  | .cells _ t => .cells cs t
  | .row e n _ t => .row e n cs t
  | x => x

def opStore (tab : Tab) (T : Tm) (M : Mem) (t : TypeId) (x y : Operand) : Option Eff :=
  match look tab t with
  | some ti => match ev T x with
    | some (.ptr i off) => match ev T y with
      | some v => match M i with
        | some ob => match ob.list with
          | some cs => match Nat.beq v.cells.length ti.size with
            | true => match allOne v.cells with
              | true => match v.cells with
                | [] => none
                | c :: r => match writeD cs off (c :: r) with
                  | some cs' => some (.wr i (ob.put cs'))
                  | none => none
              | false => none
            | false => none
          | none => none
        | none => none
      | none => none
    | _ => none
  | none => none

theorem opStore_ok (hP : Tab.oks P tab) (hT : TmOk ρ T S a) (hW : WI w0 L ρ M S w) {t : TypeId} {x y : Operand} {e : Eff} (h : opStore tab T M t x y = some e) (ho : o.op = .store t x y) : Oc P a o w (EPost w0 L ρ M S n e) := by
  unfold opStore at h
  split at h
  case h_2 => cases h
  rename_i ti hti
  have hti := Tab.ok_look hP hti
  split at h
  case h_2 => cases h
  rename_i i off hx
  obtain ⟨h1, _⟩ := ev_ok hT hx
  simp only [SV.conc] at h1
  split at h
  case h_2 => cases h
  rename_i v hv
  obtain ⟨h2, h3⟩ := ev_ok hT hv
  split at h
  case h_2 => cases h
  rename_i ob hi
  split at h
  case h_2 => cases h
  rename_i cs hl
  split at h
  case h_2 => cases h
  rename_i hsz
  have hsz := Nat.eq_of_beq_eq_true hsz
  split at h
  case h_2 => cases h
  rename_i hone
  split at h
  case h_1 => cases h
  rename_i c r hcr
  split at h
  case h_2 => cases h
  rename_i cs' hwd
  obtain rfl := Option.some.inj h
  rw [← hcr] at hwd
  obtain ⟨g1, g2⟩ := writeD_eq _ _ _ _ hwd
  have hpos : 0 < v.cells.length := by rw [hcr]; simp
  obtain ⟨c0, hc0⟩ : ∃ c0, get cs off = some c0 := by
    rw [get_eq]; exact ⟨cs[off]'(by omega), List.getElem?_eq_getElem (by omega)⟩
  obtain ⟨b1, b2, t', sp, b3, b4⟩ := hW.block hi hl hc0
  have hcells : (v.conc ρ).cells = (SV.concs ρ v.cells).toArray := conc_cells ρ v
  have hst := run_stores (P := P) (ρ.s i) off t' (SV.concs ρ v.cells) 0 (SV.concs ρ cs ++ sp) w (by simpa using b3) (by simp [concs_length]; omega)
    (fun x hx => by rw [concs_map] at hx; obtain ⟨y, hy, rfl⟩ := List.mem_map.1 hx; exact one_conc (allOne_mem hone y hy))
  have hlist : List.take (off + 0) (SV.concs ρ cs ++ sp) ++ SV.concs ρ v.cells ++ List.drop (off + 0 + (SV.concs ρ v.cells).length) (SV.concs ρ cs ++ sp) = SV.concs ρ cs' ++ sp := by
    rw [g2, concs_append, concs_append, concs_length, Nat.add_zero]
    have hlen : (SV.concs ρ cs).length = cs.length := concs_length ρ cs
    rw [List.take_append_of_le_length (by omega), List.drop_append_of_le_length (by omega)]
    simp [concs_map]
  rw [hlist] at hst
  have hlen' : cs'.length = cs.length := by rw [g2]; simp; omega
  have hheap : (w.setRow (ρ.s i) (SV.concs ρ cs' ++ sp).toArray).heap[ρ.s i]? = some (.cells (SV.concs ρ cs' ++ sp).toArray t' (0, 0)) :=
    setRow_heap w _ _ _ _ _ b3
  obtain ⟨hSi, hsc, _⟩ := hW.mem i ob hi
  have hscs : SV.scs S cs := by cases ob <;> simp [SObj.list] at hl <;> (subst hl; exact hsc)
  have hscs' : SV.scs S cs' := by
    rw [g2]
    exact scs_append (scs_append (scs_of_mem hscs fun x hx => List.mem_of_mem_take hx) (sc_cells h3)) (scs_of_mem hscs fun x hx => List.mem_of_mem_drop hx)
  refine Oc.skip (w' := w.setRow (ρ.s i) (SV.concs ρ cs' ++ sp).toArray) ?_ ⟨ρ, Env.agree.refl S ρ, rfl, trivial, ?_⟩
  · have hsize : ((v.conc ρ).cells).size = ti.size := by rw [hcells]; simp [concs_length, hsz]
    simp only [execOp, ho, Instr.storeAt, Instr.sureAddr, h1, h2, storeVar, Sem.run_bind, Sem.run_pure, Result.andThen_ok, run_size hti, hsize, ne_eq, not_true_eq_false, if_false]
    rw [b1, Nat.zero_add, hcells]
    simp only [hst, Result.andThen_ok]
  · refine hW.write hi b2 ?_ hheap (fun hh => ?_) (fun k hk => setRow_other w _ _ _ hk) (setRow_size w _ _) rfl rfl rfl
    · cases ob <;> simp [SObj.list] at hl <;> exact hscs'
    · have := b4 cs' _ hlen' hh
      cases ob <;> exact this

/-! ### Addresses -/
def opFieldAddr (tab : Tab) (T : Tm) (s : TypeId) (x : Operand) (f : Nat) : Option Eff :=
  match look tab s with
  | some ti => match ti.sh with
    | .str fs => match get fs f with
      | some (off, sz, _) => match sz with
        | 0 => none
        | _ + 1 => match ev T x with
          | some (.ptr i o) => some (.val none (.ptr i (o + off)))
          | _ => none
      | none => none
    | _ => none
  | none => none

theorem str_fields {s : TypeId} {ti : TI} {fs : List (Nat × Nat × Bool)} {f : Nat} {off sz : Nat} {ag : Bool} (h : TI.ok P s ti) (hs : ti.sh = .str fs) (hf : get fs f = some (off, sz + 1, ag)) :
    ∃ fields fd i d, P.underlying s = some (.struct fields) ∧ fields[f]? = some fd ∧ fd.offset = off ∧ P.info? fd.type = some i ∧ i.size = sz + 1 ∧ P.underlying fd.type = some d ∧ isAggD d = ag := by
  obtain ⟨d, h1, h2⟩ := h.desc
  rw [hs] at h2
  cases d <;> simp only [shOf] at h2 <;> try (cases h2; done)
  case slice e => split at h2 <;> cases h2
  rename_i fields
  injection h2 with h2
  rw [get_eq, ← h2, List.getElem?_map] at hf
  cases hfd : fields.toList[f]? with
  | none => simp [hfd] at hf
  | some fd =>
    simp only [hfd, Option.map_some, Option.some.injEq, Prod.mk.injEq] at hf
    obtain ⟨e1, e2⟩ := hf
    unfold fieldSh at e2
    split at e2
    · rename_i i d hi hd
      simp only [Prod.mk.injEq] at e2
      exact ⟨fields, fd, i, d, h1, by simpa using hfd, e1, hi, e2.1, hd, e2.2⟩
    · simp at e2

theorem opFieldAddr_ok (hP : Tab.oks P tab) (hT : TmOk ρ T S a) (hW : WI w0 L ρ M S w) {s : TypeId} {x : Operand} {f : Nat} {e : Eff} (h : opFieldAddr tab T s x f = some e) (ho : o.op = .fieldAddr s x f) :
    Oc P a o w (EPost w0 L ρ M S n e) := by
  unfold opFieldAddr at h
  split at h
  case h_2 => cases h
  rename_i ti hti
  have hti := Tab.ok_look hP hti
  split at h
  case h_2 => cases h
  rename_i fs hfs
  split at h
  case h_2 => cases h
  rename_i off sz ag hf
  cases sz with
  | zero => simp at h
  | succ sz =>
  simp only at h
  split at h
  case h_2 => cases h
  rename_i i off0 hx
  obtain rfl := Option.some.inj h
  obtain ⟨h1, h2⟩ := ev_ok hT hx
  simp only [SV.conc] at h1
  obtain ⟨fields, fd, inf, d, q1, q2, q3, q4, q5, _, _⟩ := str_fields hti hfs hf
  refine Oc.value (w' := w) (v := SV.conc ρ (.ptr i (off0 + off))) ?_ (EPost.same hW (v := .ptr i (off0 + off)) h2)
  simp only [execOp, ho, Instr.fieldAt, Sem.run_bind, run_und q1, Result.andThen_ok, q2, Instr.sureAddr, h1, Sem.run_pure, fieldPlace, sizeOf, typeInfo, run_program, q4, q5, Nat.add_one_ne_zero, if_false, q3, addr_add, SV.conc, Nat.add_assoc]

def opField (tab : Tab) (T : Tm) (s : TypeId) (x : Operand) (f : Nat) : Option Eff :=
  match look tab s with
  | some ti => match ti.sh with
    | .str fs => match get fs f with
      | some (off, sz, ag) => match sz with
        | 0 => none
        | m + 1 => match ev T x with
          | some (.agg cs) => match ag with
            | true => match takeD cs off (m + 1) with
              | some l => some (.val none (.agg l))
              | none => none
            | false => match get cs off with
              | some c => some (.val none c)
              | none => none
          | _ => none
      | none => none
    | _ => none
  | none => none
theorem opField_ok (hP : Tab.oks P tab) (hT : TmOk ρ T S a) (hW : WI w0 L ρ M S w) {s : TypeId} {x : Operand} {f : Nat} {e : Eff} (h : opField tab T s x f = some e) (ho : o.op = .field s x f) :
    Oc P a o w (EPost w0 L ρ M S n e) := by
  unfold opField at h
  split at h
  case h_2 => cases h
  rename_i ti hti
  have hti := Tab.ok_look hP hti
  split at h
  case h_2 => cases h
  rename_i fs hfs
  split at h
  case h_2 => cases h
  rename_i off sz ag hf
  cases sz with
  | zero => simp at h
  | succ sz =>
  simp only at h
  split at h
  case h_2 => cases h
  rename_i cs hx
  obtain ⟨h1, h2⟩ := ev_ok hT hx
  simp only [SV.conc] at h1
  have h2' : SV.scs S cs := h2
  obtain ⟨fields, fd, inf, d, q1, q2, q3, q4, q5, q6, q7⟩ := str_fields hti hfs hf
  have hag : (Go.isAgg fd.type).run P w = .ok ag w := by
    unfold Go.isAgg
    simp only [Sem.run_bind, run_und q6, Result.andThen_ok, ← q7]
    cases d <;> rfl
  cases ag with
  | true =>
    simp only at h
    split at h
    · rename_i l hl
      obtain rfl := Option.some.inj h
      obtain ⟨g1, g2⟩ := takeD_eq _ _ _ _ hl
      have hsl : SV.scs S l := scs_of_mem h2' (fun x hx => by rw [g2] at hx; exact List.mem_of_mem_drop (List.mem_of_mem_take hx))
      refine Oc.value (w' := w) (v := SV.conc ρ (.agg l)) ?_ (EPost.same hW (v := .agg l) hsl)
      have hext : (SV.concs ρ cs).toArray.extract off (off + (sz + 1)) = (SV.concs ρ l).toArray := by
        rw [g2]; simp [concs_map, List.extract_eq_take_drop, List.map_take, List.map_drop]
      simp only [execOp, ho, Instr.field, Sem.run_bind, run_und q1, Result.andThen_ok, q2, h1, asAgg, Sem.run_pure, part, hag, if_true, sizeOf, typeInfo, run_program, q4, q5, q3, hext, SV.conc]
    · cases h
  | false =>
    simp only at h
    split at h
    · rename_i c hc
      obtain rfl := Option.some.inj h
      have hg := concs_get ρ cs off c hc
      refine Oc.value (w' := w) (v := SV.conc ρ c) ?_ (EPost.same hW (scs_get h2' hc))
      have hg' : (SV.concs ρ cs).toArray[off]? = some (c.conc ρ) := by simpa using hg
      simp only [execOp, ho, Instr.field, Sem.run_bind, run_und q1, Result.andThen_ok, q2, h1, asAgg, Sem.run_pure, part, hag, Bool.false_eq_true, if_false, q3, hg']
    · cases h

def opNil (T : Tm) (x : Operand) : Option Eff :=
  match ev T x with
  | some (.ptr i off) => some (.val none (.ptr i off))
  | some (.fn f caps) => some (.val none (.fn f caps))
  | some (.v (.pointer (some p))) => some (.val none (.v (.pointer (some p))))
  | some (.v (.func (.func f) first caps)) => some (.val none (.v (.func (.func f) first caps)))
  | _ => none
theorem opNil_ok (hT : TmOk ρ T S a) (hW : WI w0 L ρ M S w) {x : Operand} {e : Eff} (h : opNil T x = some e) (ho : o.op = .nilCheck x) : Oc P a o w (EPost w0 L ρ M S n e) := by
  unfold opNil at h
  split at h
  case h_5 => cases h
  all_goals
    rename_i hx
    obtain rfl := Option.some.inj h
    obtain ⟨h1, h2⟩ := ev_ok hT hx
    refine Oc.value (w' := w) ?_ (EPost.same hW h2)
    simp only [SV.conc] at h1 ⊢
    simp [execOp, ho, h1]

def opExtract (T : Tm) (x : Operand) (i : Nat) : Option Eff :=
  match ev T x with
  | some (.tup l) => match get l i with
    | some v => some (.val none v)
    | none => none
  | _ => none
theorem opExtract_ok (hT : TmOk ρ T S a) (hW : WI w0 L ρ M S w) {x : Operand} {i : Nat} {e : Eff} (h : opExtract T x i = some e) (ho : o.op = .extract x i) : Oc P a o w (EPost w0 L ρ M S n e) := by
  unfold opExtract at h
  split at h
  case h_2 => cases h
  rename_i l hx
  obtain ⟨h1, h2⟩ := ev_ok hT hx
  split at h
  case h_2 => cases h
  rename_i v hv
  obtain rfl := Option.some.inj h
  have h2' : SV.scs S l := h2
  refine Oc.value (w' := w) (v := v.conc ρ) ?_ (EPost.same hW (scs_get h2' hv))
  have hg : (SV.concs ρ l).toArray[i]? = some (v.conc ρ) := by simpa using concs_get ρ l i v hv
  simp only [SV.conc] at h1
  simp [execOp, ho, Instr.extract, h1, hg]

def opMakeFunc (T : Tm) (f : Fn) (first : Array Operand) (caps : Array Operand) : Option Eff :=
  match f with
  | .func g => match first.toList with
    | [] => match evs T caps.toList with
      | some vs => some (.val none (.fn g vs))
      | none => none
    | _ => none
  | _ => none
theorem opMakeFunc_ok (hT : TmOk ρ T S a) (hW : WI w0 L ρ M S w) {f : Fn} {first caps : Array Operand} {e : Eff} (h : opMakeFunc T f first caps = some e) (ho : o.op = .makeFunc f first caps) : Oc P a o w (EPost w0 L ρ M S n e) := by
  unfold opMakeFunc at h
  split at h
  case h_2 => cases h
  rename_i g
  split at h
  case h_2 => cases h
  rename_i hf
  split at h
  case h_2 => cases h
  rename_i vs hvs
  obtain rfl := Option.some.inj h
  obtain ⟨h1, h2⟩ := evs_ok hT hvs
  refine Oc.value (w' := w) (v := SV.conc ρ (.fn g vs)) ?_ (EPost.same hW (v := .fn g vs) h2)
  have e1 : first = #[] := by cases first; simpa using hf
  have e2 : caps.map a.eval = (SV.concs ρ vs).toArray := by apply Array.ext'; simp [h1]
  simp [execOp, ho, Instr.makeFunc, e1, e2, SV.conc]
end
end Go.Sx
