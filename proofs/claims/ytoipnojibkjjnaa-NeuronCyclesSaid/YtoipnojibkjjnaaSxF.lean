/-
  A small symbolic executor over the model (part F): builtins, composite values, calls of functions that only compute; all operations together.
  No condition: these are definitions and laws that hold of every program.
-/
import Derived.Test.YtoipnojibkjjnaaSxS
import Derived.Laws.Slices
namespace Go.Sx
section
variable {P : Program} {tab : Tab} {w0 w : World} {L : List (Nat × Nat)} {ρ : Env} {T : Tm} {M : Mem} {S : Nat → Prop} {n : Nat} {a : Act} {o : Oper}

/-! ### len, min, max -/
def opLen (tab : Tab) (T : Tm) (M : Mem) (t : TypeId) (x : Operand) : Option Eff :=
  match look tab t with
  | some ti => match ti.sh with
    | .slc _ _ _ => match ev T x with
      | some (.slc _ _ len _) => some (.val none (.v (.int .i64 (len : Int))))
      | some (.opq b) => match M b with
        | some (.row _ m _ _) => some (.val none (.v (.int .i64 (m : Int))))
        | _ => none
      | some (.v (.slice _ len _)) => some (.val none (.v (.int .i64 (len : Int))))
      | _ => none
    | .string => match ev T x with
      | some (.v (.string s)) => some (.val none (.v (.int .i64 (s.size : Int))))
      | _ => none
    | .arr m _ _ => match ev T x with
      | some _ => some (.val none (.v (.int .i64 (m : Int))))
      | none => none
    | _ => none
  | none => none
theorem opLen_ok (hP : Tab.oks P tab) (hT : TmOk ρ T S a) (hW : WI w0 L ρ M S w) {t : TypeId} {ts : Array TypeId} {x : Operand} {e : Eff} (h : opLen tab T M t x = some e)
    (ho : o.op = .call { callee := .builtin .len, args := #[x], argTypes := ts }) (hts : ts[0]? = some t) : Oc P a o w (EPost w0 L ρ M S n e) := by
  unfold opLen at h
  split at h
  case h_2 => cases h
  rename_i ti hti
  have hti := Tab.ok_look hP hti
  obtain ⟨d, hd, hsh⟩ := hti.desc
  have hex : ∀ (v : Value) (m : Nat), a.eval x = v → (Builtin.len_ ts o.type #[v]).run P w = .ok (.int .i64 (m : Int)) w → Oc P a o w (EPost w0 L ρ M S n (.val none (.v (.int .i64 (m : Int))))) := by
    intro v m hv hr
    refine Oc.value (w' := w) (v := .int .i64 (m : Int)) ?_ (EPost.same hW (v := .v (.int .i64 (m : Int))) trivial)
    simp [execOp, ho, resolve, invoke, builtin, hv, hr]
  split at h
  case h_4 => cases h
  · rename_i el sz by_ hs
    obtain ⟨inf, rfl, _⟩ := sh_desc.2.2.2.2.1 el sz by_ (hsh.trans hs)
    split at h
    case h_4 => cases h
    · rename_i b off len cap hx
      obtain rfl := Option.some.inj h
      exact hex _ len (ev_ok hT hx).1 (by simp [Builtin.len_, hts, run_und hd, SV.conc, goInt])
    · rename_i b hx
      split at h
      case h_2 => cases h
      rename_i e' m xs ty hb
      obtain rfl := Option.some.inj h
      obtain ⟨_, _, r0, rlen, rr⟩ := hW.mem b _ hb
      have hm : (ρ.h b).2.1 = m := by
        rcases rr with ⟨rh, rm⟩ | ⟨cap, sp, rh, _, _⟩
        · rw [rh, rm]
        · rw [rh]
      exact hex _ m (ev_ok hT hx).1 (by simp [Builtin.len_, hts, run_und hd, SV.conc, goInt, hm])
    · rename_i p len cap hx
      obtain rfl := Option.some.inj h
      exact hex _ len (ev_ok hT hx).1 (by simp [Builtin.len_, hts, run_und hd, SV.conc, goInt])
  · rename_i hs
    obtain rfl := sh_desc.2.2.2.2.2.2 (hsh.trans hs)
    split at h
    case h_2 => cases h
    rename_i s hx
    obtain rfl := Option.some.inj h
    exact hex _ s.size (ev_ok hT hx).1 (by simp [Builtin.len_, hts, run_und hd, SV.conc, goInt])
  · rename_i m sz ag hs
    obtain ⟨el, rfl, _⟩ := sh_desc.2.2.2.2.2.1 m sz ag (hsh.trans hs)
    split at h
    case h_2 => cases h
    rename_i v hx
    obtain rfl := Option.some.inj h
    exact hex _ m (ev_ok hT hx).1 (by simp [Builtin.len_, hts, run_und hd, goInt])

def opMin (T : Tm) (isMax : Bool) (x y : Operand) : Option Eff :=
  match ev T x, ev T y with
  | some (.v (.int k p)), some (.v (.int _ q)) => match isMax with
    | true => some (.val none (.v (.int k (max p q))))
    | false => some (.val none (.v (.int k (min p q))))
  | _, _ => none
theorem opMin_ok (hT : TmOk ρ T S a) (hW : WI w0 L ρ M S w) {ts : Array TypeId} {x y : Operand} {b : Bool} {e : Eff} (h : opMin T b x y = some e)
    (ho : o.op = .call { callee := .builtin (if b then .max else .min), args := #[x, y], argTypes := ts }) : Oc P a o w (EPost w0 L ρ M S n e) := by
  unfold opMin at h
  split at h
  case h_2 => cases h
  rename_i k p k' q hx hy
  obtain ⟨h1, _⟩ := ev_ok hT hx
  obtain ⟨h2, _⟩ := ev_ok hT hy
  simp only [SV.conc] at h1 h2
  cases b
  · simp only at h
    obtain rfl := Option.some.inj h
    refine Oc.value (w' := w) (v := .int k (min p q)) ?_ (EPost.same hW (v := .v (.int k (min p q))) trivial)
    have hm : (if q < p then q else p) = min p q := by split <;> omega
    simp [execOp, ho, resolve, invoke, builtin, h1, h2, Builtin.min_, Builtin.min2, hm]
  · simp only at h
    obtain rfl := Option.some.inj h
    refine Oc.value (w' := w) (v := .int k (max p q)) ?_ (EPost.same hW (v := .v (.int k (max p q))) trivial)
    have hm : (if p < q then q else p) = max p q := by split <;> omega
    simp [execOp, ho, resolve, invoke, builtin, h1, h2, Builtin.max_, Builtin.max2, hm]

/-! ### Composite values -/
def evParts (T : Tm) : List (Nat × Operand) → Option (List (Nat × SV))
  | [] => some []
  | (i, x) :: l => match ev T x with
    | some v => match evParts T l with
      | some r => some ((i, v) :: r)
      | none => none
    | none => none
theorem evParts_ok (hT : TmOk ρ T S a) : ∀ {l : List (Nat × Operand)} {r : List (Nat × SV)}, evParts T l = some r →
    l.map (fun p => (p.1, a.eval p.2)) = r.map (fun p => (p.1, p.2.conc ρ)) ∧ ∀ p ∈ r, p.2.sc S
  | [], r, h => by simp [evParts] at h; subst h; simp
  | (i, x) :: l, r, h => by
    unfold evParts at h
    split at h
    case h_2 => cases h
    rename_i v hv
    split at h
    case h_2 => cases h
    rename_i r' hr
    obtain rfl := Option.some.inj h
    obtain ⟨h1, h2⟩ := ev_ok hT hv
    obtain ⟨h3, h4⟩ := evParts_ok hT hr
    refine ⟨by simp [h1, h3], ?_⟩
    intro p hp
    rcases List.mem_cons.1 hp with rfl | hp
    · exact h2
    · exact h4 p hp

def fillS (place : Nat → Option (Nat × Nat)) : List SV → List (Nat × SV) → Option (List SV)
  | cs, [] => some cs
  | cs, (i, v) :: r => match place i with
    | some (off, sz) => match Nat.beq v.cells.length sz with
      | true => match writeD cs off v.cells with
        | some cs' => fillS place cs' r
        | none => none
      | false => none
    | none => none
theorem fold_zip (off : Nat) : ∀ (vs : List Value) (k : Nat) (cs : List Value), off + k + vs.length ≤ cs.length →
    ((vs.zipIdx k).foldl (fun (cs : Array Value) (x : Value × Nat) => cs.setIfInBounds (off + x.2) x.1) cs.toArray) = (cs.take (off + k) ++ vs ++ cs.drop (off + k + vs.length)).toArray
  | [], k, cs, _ => by simp
  | v :: vs, k, cs, h => by
    simp only [List.length_cons] at h
    simp only [List.zipIdx_cons, List.foldl_cons]
    have e0 : (cs.toArray.setIfInBounds (off + k) v) = (cs.set (off + k) v).toArray := by simp
    rw [e0, fold_zip off vs (k + 1) (cs.set (off + k) v) (by simp; omega)]
    have e1 : (cs.set (off + k) v).take (off + (k + 1)) = cs.take (off + k) ++ [v] := by
      rw [show off + (k + 1) = off + k + 1 by omega, List.take_succ_eq_append_getElem (by simp; omega), List.take_set, List.set_eq_of_length_le (by simp; omega)]
      simp
    have e2 : (cs.set (off + k) v).drop (off + (k + 1) + vs.length) = cs.drop (off + k + (vs.length + 1)) := by
      rw [show off + (k + 1) + vs.length = off + k + (vs.length + 1) by omega, List.drop_set_of_lt (by omega)]
    rw [e1, e2]; simp
theorem fillS_ok {place : Nat → Option (Nat × Nat)} : ∀ {r : List (Nat × SV)} {cs cs' : List SV}, fillS place cs r = some cs' → SV.scs S cs → (∀ p ∈ r, p.2.sc S) →
    Instr.fill place (SV.concs ρ cs).toArray (r.map fun p => (p.1, p.2.conc ρ)) = some (SV.concs ρ cs').toArray ∧ SV.scs S cs'
  | [], cs, cs', h, hs, _ => by simp [fillS] at h; subst h; exact ⟨rfl, hs⟩
  | (i, v) :: r, cs, cs', h, hs, hr => by
    unfold fillS at h
    split at h
    case h_2 => cases h
    rename_i off sz hp
    split at h
    case h_2 => cases h
    rename_i hsz
    have hsz := Nat.eq_of_beq_eq_true hsz
    split at h
    case h_2 => cases h
    rename_i cs1 hw
    obtain ⟨g1, g2⟩ := writeD_eq _ _ _ _ hw
    have hv := hr (i, v) (by simp)
    have hs1 : SV.scs S cs1 := by
      rw [g2]
      exact scs_append (scs_append (scs_of_mem hs fun x hx => List.mem_of_mem_take hx) (sc_cells hv)) (scs_of_mem hs fun x hx => List.mem_of_mem_drop hx)
    obtain ⟨f1, f2⟩ := fillS_ok h hs1 (fun p hp => hr p (by simp [hp]))
    refine ⟨?_, f2⟩
    have hc : (v.conc ρ).cells = (SV.concs ρ v.cells).toArray := conc_cells ρ v
    have hlen : ¬ ((v.conc ρ).cells.size ≠ sz || off + (v.conc ρ).cells.size > (SV.concs ρ cs).toArray.size) = true := by
      rw [hc]; simp [concs_length, hsz] at g1 ⊢; omega
    simp only [List.map_cons, Instr.fill, hp]
    rw [if_neg hlen, hc]
    have hz : ((SV.concs ρ v.cells).toArray.zipIdx.foldl (fun (cs : Array Value) (x : Value × Nat) => cs.setIfInBounds (off + x.2) x.1) (SV.concs ρ cs).toArray) = (SV.concs ρ cs1).toArray := by
      rw [← Array.foldl_toList]
      have := fold_zip off (SV.concs ρ v.cells) 0 (SV.concs ρ cs) (by simp [concs_length]; omega)
      rw [g2, concs_append, concs_append]
      simp only [Nat.add_zero, concs_length] at this
      have e : ((SV.concs ρ v.cells).toArray.zipIdx).toList = (SV.concs ρ v.cells).zipIdx := by simp
      rw [e, this]
      simp [concs_map]
    have : (SV.concs ρ v.cells).toArray.zipIdx.foldl (fun cs (x : Value × Nat) => match x with | (c, j) => cs.setIfInBounds (off + j) c) (SV.concs ρ cs).toArray = (SV.concs ρ cs1).toArray := hz
    rw [this]
    exact f1

def strPlaces : List (Nat × Nat × Bool) → Option (List (Nat × Nat))
  | [] => some []
  | (off, sz, _) :: l => match sz with
    | 0 => none
    | m + 1 => match strPlaces l with
      | some r => some ((off, m + 1) :: r)
      | none => none
theorem strPlaces_ok : ∀ (fields : List Field) (pl : List (Nat × Nat)), strPlaces (fields.map fun f => (f.offset, fieldSh P f.type)) = some pl →
    fields.mapM (fun f => (P.info? f.type).map fun i => (f.offset, i.size)) = some pl
  | [], pl, h => by simp [strPlaces] at h; simp [h]
  | f :: fs, pl, h => by
    simp only [List.map_cons, strPlaces] at h
    cases hsz : (fieldSh P f.type).1 with
    | zero => simp [hsz] at h
    | succ m =>
      simp only [hsz] at h
      split at h
      case h_2 => cases h
      rename_i r hr
      obtain rfl := Option.some.inj h
      have ih := strPlaces_ok fs r hr
      unfold fieldSh at hsz
      split at hsz
      · rename_i i d hi _
        simp only at hsz
        simp [List.mapM_cons, hi, ih, hsz]
      · simp at hsz

def opBuild (tab : Tab) (T : Tm) (t : TypeId) (parts : Array (Nat × Operand)) : Option Eff :=
  match look tab t with
  | some ti => match ti.sh with
    | .str fs => match strPlaces fs with
      | some pl => match evParts T parts.toList with
        | some r => match fillS (get pl) (ti.zero.map .v) r with
          | some cs => some (.val none (.agg cs))
          | none => none
        | none => none
      | none => none
    | _ => none
  | none => none
theorem opBuild_ok (hP : Tab.oks P tab) (hT : TmOk ρ T S a) (hW : WI w0 L ρ M S w) {t : TypeId} {parts : Array (Nat × Operand)} {e : Eff} (h : opBuild tab T t parts = some e) (ho : o.op = .build t parts) :
    Oc P a o w (EPost w0 L ρ M S n e) := by
  unfold opBuild at h
  split at h
  case h_2 => cases h
  rename_i ti hti
  have hti := Tab.ok_look hP hti
  obtain ⟨d, hd, hsh⟩ := hti.desc
  obtain ⟨i, z, i1, i2, i3, i4⟩ := hti.infos
  split at h
  case h_2 => cases h
  rename_i fs hs
  split at h
  case h_2 => cases h
  rename_i pl hpl
  split at h
  case h_2 => cases h
  rename_i r hr
  split at h
  case h_2 => cases h
  rename_i cs hcs
  obtain rfl := Option.some.inj h
  rw [hs] at hsh
  cases d <;> simp only [shOf] at hsh <;> try (cases hsh; done)
  case slice e => split at hsh <;> cases hsh
  rename_i fields
  injection hsh with hsh
  have hpl' := strPlaces_ok (P := P) fields.toList pl (by rw [hsh]; exact hpl)
  obtain ⟨p1, p2⟩ := evParts_ok hT hr
  obtain ⟨f1, f2⟩ := fillS_ok (ρ := ρ) (S := S) hcs (scs_v S _) p2
  rw [concs_v] at f1
  have hz : z.cells = ti.zero.toArray := by rw [← i4]
  have hbuilt : P.built t (parts.map fun (p : Nat × Operand) => (p.1, a.eval p.2)).toList = some (SV.concs ρ cs).toArray := by
    unfold Program.built
    simp only [i1, hd, i3, hpl', hz]
    have hpp : (parts.map fun (p : Nat × Operand) => (p.1, a.eval p.2)).toList = r.map fun p => (p.1, p.2.conc ρ) := by simpa using p1
    rw [hpp, ← f1]
    congr 1
    funext j
    rw [get_eq]; simp
  refine Oc.value (w' := w) (v := SV.conc ρ (.agg cs)) ?_ (EPost.same hW (v := .agg cs) f2)
  have := run_build w t _ _ hbuilt
  simp only [execOp, ho, Sem.run_bind, this, Result.andThen_ok, Sem.run_pure, SV.conc]

/-- 'k' times the same cells. -/
def repS (z : List Value) : Nat → List SV
  | 0 => []
  | k + 1 => z.map .v ++ repS z k
theorem repS_eq (z : List Value) : ∀ k, SV.concs ρ (repS z k) = (List.replicate k z).flatten
  | 0 => rfl
  | k + 1 => by simp [repS, concs_append, concs_v, repS_eq z k, List.replicate_succ]
theorem repS_sc (z : List Value) : ∀ k, SV.scs S (repS z k)
  | 0 => trivial
  | k + 1 => scs_append (scs_v S z) (repS_sc z k)
theorem range_rep (z : List Value) (k : Nat) : ((Array.range (k * z.length)).map fun i => z.toArray[i % z.toArray.size]!) = (List.replicate k z).flatten.toArray := by
  apply Array.ext'
  simp only [Array.toList_map, Array.toList_range]
  induction k with
  | zero => simp
  | succ k ih =>
    rw [List.replicate_succ', List.flatten_append, ← ih, Nat.succ_mul, List.range_add, List.map_append]
    congr 1
    rw [List.map_map]
    apply List.ext_getElem
    · simp
    · intro i h1 h2
      simp only [List.length_map, List.length_range] at h1
      simp [Nat.mod_eq_of_lt h1, h1]

def opBuildSlice (tab : Tab) (T : Tm) (n : Nat) (t : TypeId) (len : Nat) (parts : Array (Nat × Operand)) : Option Eff :=
  match look tab t with
  | some ti => match ti.sh with
    | .slc el sz _ => match look tab el with
      | some te => match Nat.beq te.zero.length sz with
        | true => match sz with
          | 0 => none
          | m + 1 => match Nat.ble (len * (m + 1)) 16777216 with
            | true => match evParts T parts.toList with
              | some r => match fillS (fun i => some (i * (m + 1), m + 1)) (repS te.zero len) r with
                | some cs => some (.new (.slc n 0 len len) (.cells cs el))
                | none => none
              | none => none
            | false => none
        | false => none
      | none => none
    | _ => none
  | none => none
theorem opBuildSlice_ok (hP : Tab.oks P tab) (hT : TmOk ρ T S a) (hW : WI w0 L ρ M S w) (hn : ¬ S n) {t : TypeId} {len : Nat} {parts : Array (Nat × Operand)} {e : Eff} (h : opBuildSlice tab T n t len parts = some e)
    (ho : o.op = .buildSlice t len parts) : Oc P a o w (EPost w0 L ρ M S n e) := by
  unfold opBuildSlice at h
  split at h
  case h_2 => cases h
  rename_i ti hti
  have hti := Tab.ok_look hP hti
  obtain ⟨d, hd, hsh⟩ := hti.desc
  split at h
  case h_2 => cases h
  rename_i el sz by_ hs
  obtain ⟨inf, rfl, g2, g3, _⟩ := sh_desc.2.2.2.2.1 el sz by_ (hsh.trans hs)
  split at h
  case h_2 => cases h
  rename_i te hte
  have hte := Tab.ok_look hP hte
  split at h
  case h_2 => cases h
  rename_i hsz
  have hsz := Nat.eq_of_beq_eq_true hsz
  cases sz with
  | zero => simp at h
  | succ m =>
  simp only at h
  split at h
  case h_2 => cases h
  rename_i hle
  have hle := Nat.le_of_ble_eq_true hle
  split at h
  case h_2 => cases h
  rename_i r hr
  split at h
  case h_2 => cases h
  rename_i cs hcs
  obtain rfl := Option.some.inj h
  obtain ⟨z, hz, hzc⟩ := run_zero (w := w) hte
  obtain ⟨p1, p2⟩ := evParts_ok hT hr
  obtain ⟨f1, f2⟩ := fillS_ok (ρ := ρ) (S := S) hcs (repS_sc _ _) p2
  rw [repS_eq] at f1
  obtain ⟨ρ', a1, a2, a3, a4⟩ := EPost.newCells hW hn f2 el
  refine Oc.value (w' := w.alloc (.cells (SV.concs ρ cs).toArray el)) (v := .slice (some ⟨w.heap.size, 0, none⟩) len len) ?_ ⟨ρ', a1, ?_, .inr rfl, a4⟩
  · have hpp : (parts.map fun (p : Nat × Operand) => (p.1, a.eval p.2)).toList = r.map fun p => (p.1, p.2.conc ρ) := by simpa using p1
    have hcells : (Array.range (len * (m + 1))).map (fun i => (if len * (m + 1) = 0 then #[] else z.cells)[i % (if len * (m + 1) = 0 then #[] else z.cells).size]!) = (List.replicate len te.zero).flatten.toArray := by
      by_cases hl0 : len = 0
      · subst hl0; simp
      · have : len * (m + 1) ≠ 0 := Nat.mul_ne_zero hl0 (by omega)
        simp only [this, if_false, hzc]
        rw [← hsz]
        exact range_rep te.zero len
    have hbig : ¬ len * (m + 1) > 2 ^ 24 := by omega
    simp only [execOp, ho, Instr.buildSlice, Sem.run_bind, run_und hd, Result.andThen_ok, run_szOf g2, g3, hbig, if_false, Sem.run_pure, Sem.run_ite, hz]
    by_cases hl0 : len * (m + 1) = 0
    · simp only [hl0, if_true] at hcells ⊢
      rw [hcells, hpp, f1]
      simp [newRow]
    · simp only [hl0, if_false] at hcells ⊢
      rw [hcells, hpp, f1]
      simp [newRow]
  · simp only [Eff.res, SV.conc, Value.pointer.injEq, Option.some.injEq] at a2 ⊢
    rw [← a2]

/-! ### make -/
def opMake (tab : Tab) (T : Tm) (n : Nat) (t : TypeId) (x y : Operand) : Option Eff :=
  match look tab t with
  | some ti => match ti.sh with
    | .slc te sz by_ => match sz with
      | 1 => match look tab te with
        | some tie => match tie.zero with
          | [zv] => match ev T x, ev T y with
            | some (.v (.int _ p)), some (.v (.int _ q)) => match decide (0 ≤ p ∧ p = q ∧ by_ * p.toNat ≤ 281474976710656 ∧ p ≤ 16777216) with
              | true => some (.new (.opq n) (.row 1 p.toNat (List.replicate p.toNat (.v zv)) te))
              | false => none
            | _, _ => none
          | _ => none
        | none => none
      | _ => none
    | _ => none
  | none => none
theorem opMake_ok (hP : Tab.oks P tab) (hT : TmOk ρ T S a) (hW : WI w0 L ρ M S w) (hn : ¬ S n) {t : TypeId} {x y : Operand} {e : Eff} (h : opMake tab T n t x y = some e) (ho : o.op = .makeSlice t x y) :
    Oc P a o w (EPost w0 L ρ M S n e) := by
  unfold opMake at h
  split at h
  case h_2 => cases h
  rename_i ti hti
  have hti := Tab.ok_look hP hti
  obtain ⟨d, hd, hsh⟩ := hti.desc
  split at h
  case h_2 => cases h
  rename_i te sz by_ hs
  split at h
  case h_2 => cases h
  obtain ⟨inf, rfl, g2, g3, g4⟩ := sh_desc.2.2.2.2.1 te 1 by_ (hsh.trans hs)
  split at h
  case h_2 => cases h
  rename_i tie hte
  have hte := Tab.ok_look hP hte
  obtain ⟨inf', z, i1, _, i3, i4⟩ := hte.infos
  rw [g2] at i1
  obtain rfl := Option.some.inj i1
  split at h
  case h_2 => cases h
  rename_i zv hz
  split at h
  case h_2 => cases h
  rename_i kx p ky q hx hy
  split at h
  case h_2 => cases h
  rename_i hdec
  obtain ⟨h0, rfl, hb, hm⟩ := of_decide_eq_true hdec
  obtain rfl := Option.some.inj h
  obtain ⟨m, rfl⟩ : ∃ m : Nat, p = (m : Int) := ⟨p.toNat, by omega⟩
  simp only [Int.toNat_natCast] at hb ⊢
  obtain ⟨h1, _⟩ := ev_ok hT hx
  obtain ⟨h2, _⟩ := ev_ok hT hy
  simp only [SV.conc] at h1 h2
  obtain ⟨w', r1, r2, r3⟩ := run_makeSlice_full (P := P) w w.heap.size t te inf z 1 hd g2 i3 g3 kx ky m (by omega) (by rw [g4]; exact hb) (by simp only [maxLen]; omega) (Nat.le_refl _)
  have hcs : (madeCells z.cells (m * 1)).toList = SV.concs ρ (List.replicate m (.v zv)) := by
    have : z.cells = #[zv] := by rw [hz] at i4; rw [← i4]
    rw [this, Nat.mul_one, toList_madeCells_one, concs_map]
    simp [SV.conc]
  rw [hcs] at r2
  have hscs : SV.scs S (List.replicate m (.v zv)) := by
    rw [scs_iff]; intro a ha; rw [List.eq_of_mem_replicate ha]; trivial
  obtain ⟨hW', hag⟩ := hW.rowTo (M1 := M) (fun _ _ h => h) hn (xs := List.replicate m (.v zv)) (t := te) (e := 1) (n := m) r3 (fun b hb => by cases hb) (fun g hg => .inr (r2.lt g hg).1) (ownsRow_mono r2 (Nat.zero_le _)) hscs
  refine Oc.value (w' := w') (v := .slice (some ⟨w.heap.size, 0, none⟩) m m) (by simp [execOp, ho, h1, h2, r1]) ⟨_, hag, ?_, .inr rfl, hW'⟩
  exact (conc_bindV r2 ρ n).symm

/-! ### Slices of slices -/
def evO (T : Tm) : Option Operand → Option (Option Int)
  | none => some none
  | some x => match ev T x with
    | some (.v (.int _ q)) => some (some q)
    | _ => none
def opSlice (tab : Tab) (T : Tm) (t : TypeId) (x : Operand) (lo hi mx : Option Operand) : Option Eff :=
  match mx with
  | some _ => none
  | none => match look tab t with
    | some ti => match ti.sh with
      | .slc _ sz _ => match ev T x with
        | some (.slc b off len cap) => match evO T lo, evO T hi with
          | some none, some none => some (.val none (.slc b off len cap))
          | some (some l), some none => some (.val (some (0 ≤ l ∧ l ≤ (len : Int) ∧ l < (cap : Int))) (.slc b (off + l.toNat * sz) (len - l.toNat) (cap - l.toNat)))
          | some none, some (some h) => some (.val (some (0 ≤ h ∧ h ≤ (cap : Int))) (.slc b off h.toNat cap))
          | some (some l), some (some h) => some (.val (some (0 ≤ l ∧ l ≤ h ∧ h ≤ (cap : Int) ∧ l < (cap : Int))) (.slc b (off + l.toNat * sz) (h.toNat - l.toNat) (cap - l.toNat)))
          | _, _ => none
        | _ => none
      | _ => none
    | none => none
theorem evO_ok (hT : TmOk ρ T S a) {x : Option Operand} {r : Option Int} (h : evO T x = some r) : (r = none ∧ x.map a.eval = none) ∨ ∃ k q, r = some q ∧ x.map a.eval = some (.int k q) := by
  cases x with
  | none => obtain rfl := Option.some.inj h; exact .inl ⟨rfl, rfl⟩
  | some x =>
    unfold evO at h
    simp only at h
    split at h
    · rename_i k q hq
      obtain rfl := Option.some.inj h
      exact .inr ⟨k, q, rfl, by rw [Option.map_some, (ev_ok hT hq).1]; rfl⟩
    · cases h
theorem sliced_add (b off l h m s : Nat) (ha : l < m) : sliced (some ⟨b, off, none⟩) l h m s = .slice (some ⟨b, off + l * s, none⟩) (h - l) (m - l) := by
  unfold sliced
  rw [if_neg (by omega)]
  simp only [Option.map_some, addr_add]
theorem sliced_zero (b off h m s : Nat) : sliced (some ⟨b, off, none⟩) 0 h m s = .slice (some ⟨b, off, none⟩) h m := by
  unfold sliced
  split <;> simp [Addr.add]
theorem opSlice_ok (hP : Tab.oks P tab) (hT : TmOk ρ T S a) (hW : WI w0 L ρ M S w) {t : TypeId} {x : Operand} {lo hi mx : Option Operand} {e : Eff} (h : opSlice tab T t x lo hi mx = some e) (hob : e.obl) (ho : o.op = .slice t x lo hi mx) :
    Oc P a o w (EPost w0 L ρ M S n e) := by
  unfold opSlice at h
  split at h
  case h_1 => cases h
  split at h
  case h_2 => cases h
  rename_i ti hti
  have hti := Tab.ok_look hP hti
  obtain ⟨d, hd, hsh⟩ := hti.desc
  split at h
  case h_2 => cases h
  rename_i el sz by_ hs
  obtain ⟨inf, rfl, g2, g3, _⟩ := sh_desc.2.2.2.2.1 el sz by_ (hsh.trans hs)
  have hund : P.underlying t = some (.slice (P.elem t)) := by
    have := hd
    rw [this]
    simp [Program.elem, this]
  have hel : P.elem t = el := by
    have := hund.symm.trans hd
    simpa using this
  split at h
  case h_2 => cases h
  rename_i b off len cap hx
  obtain ⟨h2, h3⟩ := ev_ok hT hx
  simp only [SV.conc] at h2
  have hsz : (sizeOf (P.elem t)).run P w = .ok sz w := by rw [hel, run_szOf g2, g3]
  have key : ∀ (v : SV), v.sc S → (Instr.slice t (.slice (some ⟨ρ.s b, ρ.o b + off, none⟩) len cap) (lo.map a.eval) (hi.map a.eval) none).run P w = .ok (v.conc ρ) w → ∀ ob, Oc P a o w (EPost w0 L ρ M S n (.val ob v)) := by
    intro v hv hr ob
    refine Oc.value (w' := w) (v := v.conc ρ) ?_ (EPost.same hW hv)
    have hr' : (Instr.sliceAt t (.slice (some ⟨ρ.s b, ρ.o b + off, none⟩) len cap) (lo.map a.eval) (hi.map a.eval) none).run P w = .ok (v.conc ρ) w := by
      rw [run_sliceAt_slice w t _ _ _ _ hund, hr]
    simp [execOp, ho, h2, hr']
  split at h
  · rename_i hl hh
    obtain rfl := Option.some.inj h
    rcases evO_ok hT hl with ⟨_, e1⟩ | ⟨k, q, e1, _⟩
    case inr => cases e1
    rcases evO_ok hT hh with ⟨_, e2⟩ | ⟨k, q, e2, _⟩
    case inr => cases e2
    refine key (.slc b off len cap) h3 ?_ _
    rw [e1, e2, run_slice_all w t _ len cap hund, hsz]
    simp [SV.conc, sliced_zero]
  · rename_i l hl hh
    obtain rfl := Option.some.inj h
    rcases evO_ok hT hl with ⟨e1, _⟩ | ⟨k, q, e1, e1'⟩
    · cases e1
    obtain rfl := Option.some.inj e1
    rcases evO_ok hT hh with ⟨_, e2⟩ | ⟨k2, q2, e2, _⟩
    case inr => cases e2
    have hob' : 0 ≤ l ∧ l ≤ (len : Int) ∧ l < (cap : Int) := hob
    refine key (.slc b (off + l.toNat * sz) (len - l.toNat) (cap - l.toNat)) h3 ?_ _
    rw [e1', e2, run_slice_l w t _ len cap hund k l hob'.1 hob'.2.1, hsz]
    simp only [Result.andThen, SV.conc]
    rw [sliced_add _ _ _ _ _ _ (by omega), Nat.add_assoc]
  · rename_i hh' hl hh
    obtain rfl := Option.some.inj h
    rcases evO_ok hT hl with ⟨_, e1⟩ | ⟨k, q, e1, _⟩
    case inr => cases e1
    rcases evO_ok hT hh with ⟨e2, _⟩ | ⟨k2, q2, e2, e2'⟩
    · cases e2
    obtain rfl := Option.some.inj e2
    have hob' : 0 ≤ hh' ∧ hh' ≤ (cap : Int) := hob
    refine key (.slc b off hh'.toNat cap) h3 ?_ _
    rw [e1, e2', run_slice_h w t _ len cap hund k2 hh' hob'.1 hob'.2, hsz]
    simp [SV.conc, sliced_zero]
  · rename_i l hh' hl hh
    obtain rfl := Option.some.inj h
    rcases evO_ok hT hl with ⟨e1, _⟩ | ⟨k, q, e1, e1'⟩
    · cases e1
    obtain rfl := Option.some.inj e1
    rcases evO_ok hT hh with ⟨e2, _⟩ | ⟨k2, q2, e2, e2'⟩
    · cases e2
    obtain rfl := Option.some.inj e2
    have hob' : 0 ≤ l ∧ l ≤ hh' ∧ hh' ≤ (cap : Int) ∧ l < (cap : Int) := hob
    refine key (.slc b (off + l.toNat * sz) (hh'.toNat - l.toNat) (cap - l.toNat)) h3 ?_ _
    rw [e1', e2', run_slice_lh w t _ len cap hund k k2 l hh' hob'.1 hob'.2.1 hob'.2.2.1, hsz]
    simp only [Result.andThen, SV.conc]
    rw [sliced_add _ _ _ _ _ _ (by omega), Nat.add_assoc]
  · cases h

/-! ### Calls -/
def Enters (P : Program) (g : FuncId) : Prop := ∃ fn, P.funcs[g]? = some fn ∧ (fn.name == "runtime.NumGoroutine") = false ∧ fn.body.isNone = false
theorem run_callFunc {g : FuncId} (h : Enters P g) (args : Array Value) : (callFunc g args).run P w = .ok (.enter g args) w := by
  obtain ⟨fn, h1, h2, h3⟩ := h
  simp only [callFunc, Sem.run_bind, run_program, Result.andThen_ok, h1, h2, h3, Bool.false_eq_true, if_false, Sem.run_pure]

/-- A function that only computes: its value, and new blocks at most. 'F': of what is told and the arguments: the numbers of the told blocks that it looks at, and its value. -/
structure Pure (P : Program) (g : FuncId) (F : Mem → List SV → Option (List Nat × SV)) : Prop where
  ent : Enters P g
  sc : ∀ S M args bs v, F M args = some (bs, v) → SV.scs S args → v.sc S
  cong : ∀ M M' args bs v, F M args = some (bs, v) → (∀ b ∈ bs, M' b = M b) → F M' args = some (bs, v)
  run : ∀ w0 L ρ M S args bs v w, WI w0 L ρ M S w → F M args = some (bs, v) → Calls P g (SV.concs ρ args).toArray w fun e w' => e = .returned (v.conc ρ) ∧ Ext w w'
/-- A function whose value goes by its arguments alone. -/
structure PureV (P : Program) (g : FuncId) (F : List SV → Option SV) : Prop where
  ent : Enters P g
  sc : ∀ S args v, F args = some v → SV.scs S args → v.sc S
  run : ∀ ρ args v w, F args = some v → Calls P g (SV.concs ρ args).toArray w fun e w' => e = .returned (v.conc ρ) ∧ Ext w w'
def plainF (F : List SV → Option SV) : Mem → List SV → Option (List Nat × SV) := fun _ args => match F args with
  | some v => some ([], v)
  | none => none
theorem plainF_some {F : List SV → Option SV} {M : Mem} {args : List SV} {bs : List Nat} {v : SV} (h : plainF F M args = some (bs, v)) : bs = [] ∧ F args = some v := by
  unfold plainF at h
  split at h
  · rename_i v' hv
    obtain ⟨rfl, rfl⟩ := Prod.mk.inj (Option.some.inj h)
    exact ⟨rfl, hv⟩
  · cases h
theorem PureV.lift {P : Program} {g : FuncId} {F : List SV → Option SV} (h : PureV P g F) : Pure P g (plainF F) where
  ent := h.ent
  sc S M args bs v hv hs := h.sc S args v (plainF_some hv).2 hs
  cong M M' args bs v hv _ := by
    obtain ⟨rfl, hv2⟩ := plainF_some hv
    unfold plainF
    rw [hv2]
  run w0 L ρ M S args bs v w _ hv := h.run ρ args v w (plainF_some hv).2
abbrev PF := List (Nat × (Mem → List SV → Option (List Nat × SV)))
def PF.oks (P : Program) : PF → Prop
  | [] => True
  | x :: l => Pure P x.1 x.2 ∧ PF.oks P l
theorem PF.ok_look : ∀ {pf : PF}, PF.oks P pf → ∀ {g F}, look pf g = some F → Pure P g F
  | [], _, g, F, h => by simp [look] at h
  | (k, x) :: l, h, g, F, hl => by
    rw [look_cons] at hl
    split at hl
    · rename_i e; obtain rfl := Option.some.inj hl; subst e; exact h.1
    · exact PF.ok_look h.2 hl

/-- What a called function value is: a function and what it has captured. -/
def calleeOf : SV → Option (FuncId × List SV)
  | .v (.func (.func g) first caps) => match first.toList with
    | [] => some (g, caps.toList.map .v)
    | _ => none
  | .fn g caps => some (g, caps)
  | _ => none
def opCall (pf : PF) (T : Tm) (M : Mem) (f : Operand) (args : Array Operand) : Option Eff :=
  match ev T f with
  | some fv => match calleeOf fv with
    | some (g, caps) => match look pf g with
      | some F => match evs T args.toList with
        | some vs => match F M (vs ++ caps) with
          | some (bs, v) => some (.call g (vs ++ caps) bs v)
          | none => none
        | none => none
      | none => none
    | none => none
  | none => none
theorem calleeOf_ok {fv : SV} {g : FuncId} {caps : List SV} (h : calleeOf fv = some (g, caps)) : fv.conc ρ = .func (.func g) #[] (SV.concs ρ caps).toArray ∧ (fv.sc S → SV.scs S caps) := by
  unfold calleeOf at h
  split at h
  · rename_i g' first cs
    split at h
    · rename_i hf
      have : first = #[] := by cases first; simpa using hf
      subst this
      obtain ⟨rfl, rfl⟩ := Prod.mk.inj (Option.some.inj h)
      exact ⟨by simp [SV.conc, concs_v], fun _ => scs_v S _⟩
    · cases h
  · obtain ⟨rfl, rfl⟩ := Prod.mk.inj (Option.some.inj h)
    exact ⟨rfl, fun hs => hs⟩
  · cases h
theorem run_callValue {f : Operand} {args ts : Array _} {g : FuncId} {caps : Array Value} (hg : Enters P g) (hf : a.eval f = .func (.func g) #[] caps) (ho : o.op = .call { callee := .value f, args := args, argTypes := ts }) :
    (execOp a.eval o).run P w = .ok (.enter g (args.map a.eval ++ caps)) w := by
  simp [execOp, ho, resolve, hf, Deferred.ofValue, invoke, run_callFunc hg]
theorem opCall_ok {pf : PF} (hF : PF.oks P pf) (hT : TmOk ρ T S a) (hW : WI w0 L ρ M S w) {f : Operand} {args ts : Array _} {e : Eff} (h : opCall pf T M f args = some e)
    (ho : o.op = .call { callee := .value f, args := args, argTypes := ts }) : Oc P a o w (EPost w0 L ρ M S n e) := by
  unfold opCall at h
  split at h
  case h_2 => cases h
  rename_i fv hfv
  split at h
  case h_2 => cases h
  rename_i g caps hc
  split at h
  case h_2 => cases h
  rename_i F hg
  have hg := PF.ok_look hF hg
  split at h
  case h_2 => cases h
  rename_i vs hvs
  split at h
  case h_2 => cases h
  rename_i bs v hv
  obtain rfl := Option.some.inj h
  obtain ⟨h1, h2⟩ := ev_ok hT hfv
  obtain ⟨h3, h4⟩ := calleeOf_ok (ρ := ρ) (S := S) hc
  obtain ⟨h5, h6⟩ := evs_ok hT hvs
  have hargs : args.map a.eval ++ (SV.concs ρ caps).toArray = (SV.concs ρ (vs ++ caps)).toArray := by
    rw [concs_append, ← h5]; apply Array.ext'; simp
  have hrun := run_callValue (P := P) (w := w) (o := o) hg.ent (h1.trans h3) ho
  unfold Oc
  rw [hrun]
  simp only
  rw [hargs]
  refine (hg.run w0 L ρ M S (vs ++ caps) bs v w hW hv).mono fun e w' ⟨he, hx⟩ => ⟨v.conc ρ, he, ρ, Env.agree.refl S ρ, rfl, ?_, hW.ext hx⟩
  exact hg.sc S _ _ _ _ hv (scs_append h6 (h4 h2))

/-! ### All operations -/
def opF (tab : Tab) (pf : PF) (T : Tm) (M : Mem) (n : Nat) (op : Op) : Option Eff :=
  match op with
  | .move x => opMove T x
  | .assign x => opMove T x
  | .pick c x y => opPick T c x y
  | .alloc t => opAlloc tab n t
  | .box t x => opBox T n t x
  | .build t parts => opBuild tab T t parts
  | .buildSlice t len parts => opBuildSlice tab T n t len parts
  | .makeSlice t x y => opMake tab T n t x y
  | .load t x => opLoad tab T M t x
  | .store t x y => opStore tab T M t x y
  | .nilCheck x => opNil T x
  | .binOp b t x y _ => opBin tab T b t x y
  | .unOp u _ x => opUn T u x
  | .convert s d x => opConv tab T s d x
  | .makeFunc f first caps => opMakeFunc T f first caps
  | .fieldAddr s x f => opFieldAddr tab T s x f
  | .field s x f => opField tab T s x f
  | .indexAddr t x i => opIndexAddr tab T M t x i
  | .extract x i => opExtract T x i
  | .slice t x lo hi mx => opSlice tab T t x lo hi mx
  | .call c => match c.callee with
    | .value f => opCall pf T M f c.args
    | .builtin b => match c.args.toList with
      | [x] => match b with
        | .len => match c.argTypes.toList with
          | t :: _ => opLen tab T M t x
          | [] => none
        | _ => none
      | [x, y] => match b with
        | .min => opMin T false x y
        | .max => opMin T true x y
        | _ => none
      | _ => none
    | .invoke _ _ => none
  | _ => none

theorem opF_ok {pf : PF} (hP : Tab.oks P tab) (hF : PF.oks P pf) (hT : TmOk ρ T S a) (hW : WI w0 L ρ M S w) (hn : ¬ S n) {e : Eff} (h : opF tab pf T M n o.op = some e) (hob : e.obl) :
    Oc P a o w (EPost w0 L ρ M S n e) := by
  unfold opF at h
  split at h
  case h_1 ho => exact opMove_ok hT hW h (.inl ho)
  case h_2 ho => exact opMove_ok hT hW h (.inr ho)
  case h_3 ho => exact opPick_ok hT hW h ho
  case h_4 ho => exact opAlloc_ok hP hW hn h ho
  case h_5 ho => exact opBox_ok hT hW hn h ho
  case h_6 ho => exact opBuild_ok hP hT hW h ho
  case h_7 ho => exact opBuildSlice_ok hP hT hW hn h ho
  case h_8 ho => exact opMake_ok hP hT hW hn h ho
  case h_9 ho => exact opLoad_ok hP hT hW h ho
  case h_10 ho => exact opStore_ok hP hT hW h ho
  case h_11 ho => exact opNil_ok hT hW h ho
  case h_12 ho => exact opBin_ok hP hT hW h hob ho
  case h_13 ho => exact opUn_ok hT hW h ho
  case h_14 ho => exact opConv_ok hP hT hW h ho
  case h_15 ho => exact opMakeFunc_ok hT hW h ho
  case h_16 ho => exact opFieldAddr_ok hP hT hW h ho
  case h_17 ho => exact opField_ok hP hT hW h ho
  case h_18 ho => exact opIndexAddr_ok hP hT hW h hob ho
  case h_19 ho => exact opExtract_ok hT hW h ho
  case h_20 ho => exact opSlice_ok hP hT hW h hob ho
  case h_22 => cases h
  case h_21 c ho =>
    obtain ⟨callee, args, ts⟩ := c
    simp only at h
    split at h
    · exact opCall_ok hF hT hW h ho
    · rename_i b
      split at h
      · rename_i x hx
        have hx : args = #[x] := by apply Array.ext'; simpa using hx
        subst hx
        split at h
        · split at h
          · rename_i t r ht
            exact opLen_ok hP hT hW h ho (by rw [← Array.getElem?_toList, ht]; rfl)
          · cases h
        · cases h
      · rename_i x y hx
        have hx : args = #[x, y] := by apply Array.ext'; simpa using hx
        subst hx
        split at h
        · exact opMin_ok (b := false) hT hW h ho
        · exact opMin_ok (b := true) hT hW h ho
        · cases h
      · cases h
    · cases h
end
end Go.Sx
