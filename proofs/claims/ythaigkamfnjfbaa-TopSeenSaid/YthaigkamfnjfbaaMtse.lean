/-
  Laws of the executor, and walks of functions (part 5). The conditions stand with each law.
-/
import Derived.Laws.Slices
import Derived.Test.YthaigkamfnjfbaaMtsd
namespace Go.Sx
section
variable {P : Program} (w : World)
theorem run_append_two (t ty e : TypeId) (i : TypeInfo) (z : Value) (size : Nat) (ht : P.underlying t = some (.slice e)) (hi : P.info? e = some i) (hz : i.zero = some z)
    (hsize : i.size = size) (hzs : z.cells.size = size) (hsz : 0 < size) (v : Value) (n : Nat) (xs : List Value) (hown : w.ownsRow 0 e size v n xs)
    (a : Addr) (m c : Nat) (news : List Value) (hl : news.length = m * size) (hnews : ∀ j u, news[j]? = some u → w.cell? (a.add j) = some u) (h1 : ∀ u ∈ news, u.oneCell' = true)
    (h63 : n + m ≤ maxLen) (hbytes : (n + m) * i.bytes ≤ 140737488355328) :
    ∃ v' w' row, (Builtin.append_ #[t, t] ty #[v, .slice (some a) m c]).run P w = .ok v' w' ∧ w'.ownsRow 0 e size v' (n + m) (xs ++ news) ∧ w.grownBy w' row ∧ (row = none ∨ row = v.ownBlock) ∧
      ∀ g, v'.ownBlock = some g → row = some g ∨ w.heap.size ≤ g := by
  rcases hown.2 with ⟨rfl, rfl⟩ | ⟨g, cap, cur, rfl, hbg, hg, hnc, hcm, hcs, htake⟩
  · have hx : xs = [] := List.eq_nil_of_length_eq_zero (by simpa using hown.1)
    subst hx
    obtain ⟨v', w', q1, q2, q3, _⟩ := run_append_own (P := P) w w.heap.size t ty e i z size i.bytes ht hi hz hsize rfl hzs hsz (.slice none 0 0) 0 [] (World.ownsRow_nil w _ _ _) a m c news hl hnews h1 h63 hbytes (Nat.le_refl _)
    refine ⟨v', w', none, q1, ownsRow_mono q2 (Nat.zero_le _), q3, .inl rfl, fun g hg => .inr (q2.lt g hg).1⟩
  · by_cases hroom : n + m ≤ cap
    · obtain ⟨w', q1, q2, q3⟩ := run_append_fits (P := P) w 0 t ty e i size ht hi hsize g n cap xs hown a m c news hl hnews h1 hroom
      exact ⟨_, w', some g, q1, q2, q3, .inr rfl, fun g' hg' => .inl hg'⟩
    · subst hsize
      have holds : ∀ j u, xs[j]? = some u → w.cell? ((⟨g, 0, none⟩ : Addr).add j) = some u := hown.cells (g := g) rfl
      have hsmall : n + m ≤ 9223372036854775807 := by simp only [maxLen] at h63; omega
      have hr := run_append_grow (P := P) w t ty e i z ht hi hz ⟨g, 0, none⟩ n cap xs hown.1 holds a m c news hl hnews (by omega) (by omega) (growslice_fits (by omega) hbytes)
      have hlen : (xs ++ news).length = (n + m) * i.size := by rw [List.length_append, hown.1, hl, Nat.add_mul]
      have hge := grownCap_ge w (n + m) cap e
      have hcm' : grownCap w (n + m) cap e ≤ maxLen := grownCap_le_maxLen w (n + m) cap e h63
      refine ⟨_, _, none, hr, ⟨hlen, .inr ⟨w.heap.size, _, _, rfl, Nat.zero_le _, heap_alloc_new w.drew _, hge, hcm', ?_, ?_⟩⟩, ⟨rfl, rfl, rfl, by simp, fun k hk _ => heap_alloc_old w.drew _ k hk⟩, .inl rfl, fun g' hg' => ?_⟩
      · simp only [Array.size_append, List.size_toArray, size_zeroCells, hzs, hown.1, hl, ← Nat.add_mul]
        congr 1
        omega
      · simp only [Array.toList_append, List.append_assoc]
        rw [← List.append_assoc, ← hlen]
        exact List.take_left
      · simp only [Value.ownBlock, Option.some.injEq] at hg'
        right; omega
end
theorem Ext.grown {w w' : World} (h : Ext w w') (row : Option Nat) : w.grownBy w' row := ⟨h.os, h.tape, h.output, h.size, fun k hk _ => h.keep k hk⟩
section
variable {P : Program} {tab : Tab} {w0 w : World} {L : List (Nat × Nat)} {ρ : Env} {T : Tm} {M : Mem} {S : Nat → Prop} {n : Nat} {a : Act} {o : Oper}
def opLen (tab : Tab) (T : Tm) (M : Mem) (t : TypeId) (x : Operand) : Option Eff :=
  match look tab t with
  | some ti => match ti.sh with
    | .slc _ _ _ => match ev T x with
      | some (.slc _ _ len _) => some (.val none (.v (.int .i64 (len : Int))))
      | some (.opq b) => match M b with
        | some (.row _ m _ _) => some (.val none (.v (.int .i64 (m : Int))))
        | some (.rwin _ m _) => some (.val none (.v (.int .i64 (m : Int))))
        | _ => none
      | some (.v (.slice _ len _)) => some (.val none (.v (.int .i64 (len : Int))))
      | _ => none
    | .string => match ev T x with
      | some (.v (.string s)) => some (.val none (.v (.int .i64 (s.size : Int))))
      | _ => none
    | .arr m _ _ => match ev T x with
      | some _ => some (.val none (.v (.int .i64 (m : Int))))
      | none => none
    | _ => none
  | none => none
theorem opLen_ok (hP : Tab.oks P tab) (hT : TmOk ρ T S a) (hW : WI w0 L ρ M S w) {t : TypeId} {ts : Array TypeId} {x : Operand} {e : Eff} (h : opLen tab T M t x = some e)
    (ho : o.op = .call { callee := .builtin .len, args := #[x], argTypes := ts }) (hts : ts[0]? = some t) : Oc P a o w (EPost w0 L ρ M S n e) := by
  unfold opLen at h
  split at h
  case h_2 => cases h
  rename_i ti hti
  have hti := Tab.ok_look hP hti
  obtain ⟨d, hd, hsh⟩ := hti.desc
  have hex : ∀ (v : Value) (m : Nat), a.eval x = v → (Builtin.len_ ts o.type #[v]).run P w = .ok (.int .i64 (m : Int)) w → Oc P a o w (EPost w0 L ρ M S n (.val none (.v (.int .i64 (m : Int))))) := by
    intro v m hv hr
    refine Oc.value (w' := w) (v := .int .i64 (m : Int)) ?_ (EPost.same hW (v := .v (.int .i64 (m : Int))) trivial)
    simp [execOp, ho, resolve, invoke, builtin, hv, hr]
  split at h
  case h_4 => cases h
  · rename_i el sz by_ hs
    obtain ⟨inf, rfl, _⟩ := sh_desc.2.2.2.2.1 el sz by_ (hsh.trans hs)
    split at h
    case h_4 => cases h
    · rename_i b off len cap hx
      obtain rfl := Option.some.inj h
      exact hex _ len (ev_ok hT hx).1 (by simp [Builtin.len_, hts, run_und hd, SV.conc, goInt])
    · rename_i b hx
      split at h
      case h_3 => cases h
      · rename_i e' m xs ty hb
        obtain rfl := Option.some.inj h
        obtain ⟨_, _, r0, rlen, rr⟩ := hW.mem b _ hb
        have hm : (ρ.h b).2.1 = m := by
          rcases rr with ⟨rh, rm⟩ | ⟨cap, sp, rh, _, _⟩
          · rw [rh, rm]
          · rw [rh]
        exact hex _ m (ev_ok hT hx).1 (by simp [Builtin.len_, hts, run_und hd, SV.conc, goInt, hm])
      · rename_i e' m vs hb
        obtain rfl := Option.some.inj h
        obtain ⟨_, _, _, hm, _⟩ := hW.mem b _ hb
        exact hex _ m (ev_ok hT hx).1 (by simp [Builtin.len_, hts, run_und hd, SV.conc, goInt, hm])
    · rename_i p len cap hx
      obtain rfl := Option.some.inj h
      exact hex _ len (ev_ok hT hx).1 (by simp [Builtin.len_, hts, run_und hd, SV.conc, goInt])
  · rename_i hs
    obtain rfl := sh_desc.2.2.2.2.2.2 (hsh.trans hs)
    split at h
    case h_2 => cases h
    rename_i s hx
    obtain rfl := Option.some.inj h
    exact hex _ s.size (ev_ok hT hx).1 (by simp [Builtin.len_, hts, run_und hd, SV.conc, goInt])
  · rename_i m sz ag hs
    obtain ⟨el, rfl, _⟩ := sh_desc.2.2.2.2.2.1 m sz ag (hsh.trans hs)
    split at h
    case h_2 => cases h
    rename_i v hx
    obtain rfl := Option.some.inj h
    exact hex _ m (ev_ok hT hx).1 (by simp [Builtin.len_, hts, run_und hd, goInt])
def opMin (T : Tm) (isMax : Bool) (x y : Operand) : Option Eff :=
  match ev T x, ev T y with
  | some (.v (.int k p)), some (.v (.int _ q)) => match isMax with
    | true => some (.val none (.v (.int k (max p q))))
    | false => some (.val none (.v (.int k (min p q))))
  | _, _ => none
theorem opMin_ok (hT : TmOk ρ T S a) (hW : WI w0 L ρ M S w) {ts : Array TypeId} {x y : Operand} {b : Bool} {e : Eff} (h : opMin T b x y = some e)
    (ho : o.op = .call { callee := .builtin (if b then .max else .min), args := #[x, y], argTypes := ts }) : Oc P a o w (EPost w0 L ρ M S n e) := by
  unfold opMin at h
  split at h
  case h_2 => cases h
  rename_i k p k' q hx hy
  obtain ⟨h1, _⟩ := ev_ok hT hx
  obtain ⟨h2, _⟩ := ev_ok hT hy
  simp only [SV.conc] at h1 h2
  cases b
  · simp only at h
    obtain rfl := Option.some.inj h
    refine Oc.value (w' := w) (v := .int k (min p q)) ?_ (EPost.same hW (v := .v (.int k (min p q))) trivial)
    have hm : (if q < p then q else p) = min p q := by split <;> omega
    simp [execOp, ho, resolve, invoke, builtin, h1, h2, Builtin.min_, Builtin.min2, hm]
  · simp only at h
    obtain rfl := Option.some.inj h
    refine Oc.value (w' := w) (v := .int k (max p q)) ?_ (EPost.same hW (v := .v (.int k (max p q))) trivial)
    have hm : (if p < q then q else p) = max p q := by split <;> omega
    simp [execOp, ho, resolve, invoke, builtin, h1, h2, Builtin.max_, Builtin.max2, hm]
def evParts (T : Tm) : List (Nat × Operand) → Option (List (Nat × SV))
  | [] => some []
  | (i, x) :: l => match ev T x with
    | some v => match evParts T l with
      | some r => some ((i, v) :: r)
      | none => none
    | none => none
theorem evParts_ok (hT : TmOk ρ T S a) : ∀ {l : List (Nat × Operand)} {r : List (Nat × SV)}, evParts T l = some r →
    l.map (fun p => (p.1, a.eval p.2)) = r.map (fun p => (p.1, p.2.conc ρ)) ∧ ∀ p ∈ r, p.2.sc S
  | [], r, h => by simp [evParts] at h; subst h; simp
  | (i, x) :: l, r, h => by
    unfold evParts at h
    split at h
    case h_2 => cases h
    rename_i v hv
    split at h
    case h_2 => cases h
    rename_i r' hr
    obtain rfl := Option.some.inj h
    obtain ⟨h1, h2⟩ := ev_ok hT hv
    obtain ⟨h3, h4⟩ := evParts_ok hT hr
    refine ⟨by simp [h1, h3], ?_⟩
    intro p hp
    rcases List.mem_cons.1 hp with rfl | hp
    · exact h2
    · exact h4 p hp
def fillS (place : Nat → Option (Nat × Nat)) : List SV → List (Nat × SV) → Option (List SV)
  | cs, [] => some cs
  | cs, (i, v) :: r => match place i with
    | some (off, sz) => match Nat.beq v.cells.length sz with
      | true => match writeD cs off v.cells with
        | some cs' => fillS place cs' r
        | none => none
      | false => none
    | none => none
theorem fold_zip (off : Nat) : ∀ (vs : List Value) (k : Nat) (cs : List Value), off + k + vs.length ≤ cs.length →
    ((vs.zipIdx k).foldl (fun (cs : Array Value) (x : Value × Nat) => cs.setIfInBounds (off + x.2) x.1) cs.toArray) = (cs.take (off + k) ++ vs ++ cs.drop (off + k + vs.length)).toArray
  | [], k, cs, _ => by simp
  | v :: vs, k, cs, h => by
    simp only [List.length_cons] at h
    simp only [List.zipIdx_cons, List.foldl_cons]
    have e0 : (cs.toArray.setIfInBounds (off + k) v) = (cs.set (off + k) v).toArray := by simp
    rw [e0, fold_zip off vs (k + 1) (cs.set (off + k) v) (by simp; omega)]
    have e1 : (cs.set (off + k) v).take (off + (k + 1)) = cs.take (off + k) ++ [v] := by
      rw [show off + (k + 1) = off + k + 1 by omega, List.take_succ_eq_append_getElem (by simp; omega), List.take_set, List.set_eq_of_length_le (by simp; omega)]
      simp
    have e2 : (cs.set (off + k) v).drop (off + (k + 1) + vs.length) = cs.drop (off + k + (vs.length + 1)) := by
      rw [show off + (k + 1) + vs.length = off + k + (vs.length + 1) by omega, List.drop_set_of_lt (by omega)]
    rw [e1, e2]; simp
theorem fillS_ok {place : Nat → Option (Nat × Nat)} : ∀ {r : List (Nat × SV)} {cs cs' : List SV}, fillS place cs r = some cs' → SV.scs S cs → (∀ p ∈ r, p.2.sc S) →
    Instr.fill place (SV.concs ρ cs).toArray (r.map fun p => (p.1, p.2.conc ρ)) = some (SV.concs ρ cs').toArray ∧ SV.scs S cs'
  | [], cs, cs', h, hs, _ => by simp [fillS] at h; subst h; exact ⟨rfl, hs⟩
  | (i, v) :: r, cs, cs', h, hs, hr => by
    unfold fillS at h
    split at h
    case h_2 => cases h
    rename_i off sz hp
    split at h
    case h_2 => cases h
    rename_i hsz
    have hsz := Nat.eq_of_beq_eq_true hsz
    split at h
    case h_2 => cases h
    rename_i cs1 hw
    obtain ⟨g1, g2⟩ := writeD_eq _ _ _ _ hw
    have hv := hr (i, v) (by simp)
    have hs1 : SV.scs S cs1 := by
      rw [g2]
      exact scs_append (scs_append (scs_of_mem hs fun x hx => List.mem_of_mem_take hx) (sc_cells hv)) (scs_of_mem hs fun x hx => List.mem_of_mem_drop hx)
    obtain ⟨f1, f2⟩ := fillS_ok h hs1 (fun p hp => hr p (by simp [hp]))
    refine ⟨?_, f2⟩
    have hc : (v.conc ρ).cells = (SV.concs ρ v.cells).toArray := conc_cells ρ v
    have hlen : ¬ ((v.conc ρ).cells.size ≠ sz || off + (v.conc ρ).cells.size > (SV.concs ρ cs).toArray.size) = true := by
      rw [hc]; simp [concs_length, hsz] at g1 ⊢; omega
    simp only [List.map_cons, Instr.fill, hp]
    rw [if_neg hlen, hc]
    have hz : ((SV.concs ρ v.cells).toArray.zipIdx.foldl (fun (cs : Array Value) (x : Value × Nat) => cs.setIfInBounds (off + x.2) x.1) (SV.concs ρ cs).toArray) = (SV.concs ρ cs1).toArray := by
      rw [← Array.foldl_toList]
      have := fold_zip off (SV.concs ρ v.cells) 0 (SV.concs ρ cs) (by simp [concs_length]; omega)
      rw [g2, concs_append, concs_append]
      simp only [Nat.add_zero, concs_length] at this
      have e : ((SV.concs ρ v.cells).toArray.zipIdx).toList = (SV.concs ρ v.cells).zipIdx := by simp
      rw [e, this]
      simp [concs_map]
    have : (SV.concs ρ v.cells).toArray.zipIdx.foldl (fun cs (x : Value × Nat) => match x with | (c, j) => cs.setIfInBounds (off + j) c) (SV.concs ρ cs).toArray = (SV.concs ρ cs1).toArray := hz
    rw [this]
    exact f1
def strPlaces : List (Nat × Nat × Bool) → Option (List (Nat × Nat))
  | [] => some []
  | (off, sz, _) :: l => match sz with
    | 0 => none
    | m + 1 => match strPlaces l with
      | some r => some ((off, m + 1) :: r)
      | none => none
theorem strPlaces_ok : ∀ (fields : List Field) (pl : List (Nat × Nat)), strPlaces (fields.map fun f => (f.offset, fieldSh P f.type)) = some pl →
    fields.mapM (fun f => (P.info? f.type).map fun i => (f.offset, i.size)) = some pl
  | [], pl, h => by simp [strPlaces] at h; simp [h]
  | f :: fs, pl, h => by
    simp only [List.map_cons, strPlaces] at h
    cases hsz : (fieldSh P f.type).1 with
    | zero => simp [hsz] at h
    | succ m =>
      simp only [hsz] at h
      split at h
      case h_2 => cases h
      rename_i r hr
      obtain rfl := Option.some.inj h
      have ih := strPlaces_ok fs r hr
      unfold fieldSh at hsz
      split at hsz
      · rename_i i d hi _
        simp only at hsz
        simp [List.mapM_cons, hi, ih, hsz]
      · simp at hsz
def opBuild (tab : Tab) (T : Tm) (t : TypeId) (parts : Array (Nat × Operand)) : Option Eff :=
  match look tab t with
  | some ti => match ti.sh with
    | .str fs => match strPlaces fs with
      | some pl => match evParts T parts.toList with
        | some r => match fillS (get pl) (ti.zero.map .v) r with
          | some cs => some (.val none (.agg cs))
          | none => none
        | none => none
      | none => none
    | _ => none
  | none => none
theorem opBuild_ok (hP : Tab.oks P tab) (hT : TmOk ρ T S a) (hW : WI w0 L ρ M S w) {t : TypeId} {parts : Array (Nat × Operand)} {e : Eff} (h : opBuild tab T t parts = some e) (ho : o.op = .build t parts) :
    Oc P a o w (EPost w0 L ρ M S n e) := by
  unfold opBuild at h
  split at h
  case h_2 => cases h
  rename_i ti hti
  have hti := Tab.ok_look hP hti
  obtain ⟨d, hd, hsh⟩ := hti.desc
  obtain ⟨i, z, i1, i2, i3, i4⟩ := hti.infos
  split at h
  case h_2 => cases h
  rename_i fs hs
  split at h
  case h_2 => cases h
  rename_i pl hpl
  split at h
  case h_2 => cases h
  rename_i r hr
  split at h
  case h_2 => cases h
  rename_i cs hcs
  obtain rfl := Option.some.inj h
  rw [hs] at hsh
  cases d <;> simp only [shOf] at hsh <;> try (cases hsh; done)
  case slice e => split at hsh <;> cases hsh
  rename_i fields
  injection hsh with hsh
  have hpl' := strPlaces_ok (P := P) fields.toList pl (by rw [hsh]; exact hpl)
  obtain ⟨p1, p2⟩ := evParts_ok hT hr
  obtain ⟨f1, f2⟩ := fillS_ok (ρ := ρ) (S := S) hcs (scs_v S _) p2
  rw [concs_v] at f1
  have hz : z.cells = ti.zero.toArray := by rw [← i4]
  have hbuilt : P.built t (parts.map fun (p : Nat × Operand) => (p.1, a.eval p.2)).toList = some (SV.concs ρ cs).toArray := by
    unfold Program.built
    simp only [i1, hd, i3, hpl', hz]
    have hpp : (parts.map fun (p : Nat × Operand) => (p.1, a.eval p.2)).toList = r.map fun p => (p.1, p.2.conc ρ) := by simpa using p1
    rw [hpp, ← f1]
    congr 1
    funext j
    rw [get_eq]; simp
  refine Oc.value (w' := w) (v := SV.conc ρ (.agg cs)) ?_ (EPost.same hW (v := .agg cs) f2)
  have := run_build w t _ _ hbuilt
  simp only [execOp, ho, Sem.run_bind, this, Result.andThen_ok, Sem.run_pure, SV.conc]
/-- 'k' times the same cells. -/
def repS (z : List Value) : Nat → List SV
  | 0 => []
  | k + 1 => z.map .v ++ repS z k
theorem repS_eq (z : List Value) : ∀ k, SV.concs ρ (repS z k) = (List.replicate k z).flatten
  | 0 => rfl
  | k + 1 => by simp [repS, concs_append, concs_v, repS_eq z k, List.replicate_succ]
theorem repS_sc (z : List Value) : ∀ k, SV.scs S (repS z k)
  | 0 => trivial
  | k + 1 => scs_append (scs_v S z) (repS_sc z k)
theorem range_rep (z : List Value) (k : Nat) : ((Array.range (k * z.length)).map fun i => z.toArray[i % z.toArray.size]!) = (List.replicate k z).flatten.toArray := by
  apply Array.ext'
  simp only [Array.toList_map, Array.toList_range]
  induction k with
  | zero => simp
  | succ k ih =>
    rw [List.replicate_succ', List.flatten_append, ← ih, Nat.succ_mul, List.range_add, List.map_append]
    congr 1
    rw [List.map_map]
    apply List.ext_getElem
    · simp
    · intro i h1 h2
      simp only [List.length_map, List.length_range] at h1
      simp [Nat.mod_eq_of_lt h1, h1]
def opBuildSlice (tab : Tab) (T : Tm) (n : Nat) (t : TypeId) (len : Nat) (parts : Array (Nat × Operand)) : Option Eff :=
  match look tab t with
  | some ti => match ti.sh with
    | .slc el sz _ => match look tab el with
      | some te => match Nat.beq te.zero.length sz with
        | true => match sz with
          | 0 => none
          | m + 1 => match Nat.ble (len * (m + 1)) 16777216 with
            | true => match evParts T parts.toList with
              | some r => match fillS (fun i => some (i * (m + 1), m + 1)) (repS te.zero len) r with
                | some cs => some (.new (.slc n 0 len len) (.cells cs el))
                | none => none
              | none => none
            | false => none
        | false => none
      | none => none
    | _ => none
  | none => none
theorem opBuildSlice_ok (hP : Tab.oks P tab) (hT : TmOk ρ T S a) (hW : WI w0 L ρ M S w) (hn : ¬ S n) {t : TypeId} {len : Nat} {parts : Array (Nat × Operand)} {e : Eff} (h : opBuildSlice tab T n t len parts = some e)
    (ho : o.op = .buildSlice t len parts) : Oc P a o w (EPost w0 L ρ M S n e) := by
  unfold opBuildSlice at h
  split at h
  case h_2 => cases h
  rename_i ti hti
  have hti := Tab.ok_look hP hti
  obtain ⟨d, hd, hsh⟩ := hti.desc
  split at h
  case h_2 => cases h
  rename_i el sz by_ hs
  obtain ⟨inf, rfl, g2, g3, _⟩ := sh_desc.2.2.2.2.1 el sz by_ (hsh.trans hs)
  split at h
  case h_2 => cases h
  rename_i te hte
  have hte := Tab.ok_look hP hte
  split at h
  case h_2 => cases h
  rename_i hsz
  have hsz := Nat.eq_of_beq_eq_true hsz
  cases sz with
  | zero => simp at h
  | succ m =>
  simp only at h
  split at h
  case h_2 => cases h
  rename_i hle
  have hle := Nat.le_of_ble_eq_true hle
  split at h
  case h_2 => cases h
  rename_i r hr
  split at h
  case h_2 => cases h
  rename_i cs hcs
  obtain rfl := Option.some.inj h
  obtain ⟨z, hz, hzc⟩ := run_zero (w := w) hte
  obtain ⟨p1, p2⟩ := evParts_ok hT hr
  obtain ⟨f1, f2⟩ := fillS_ok (ρ := ρ) (S := S) hcs (repS_sc _ _) p2
  rw [repS_eq] at f1
  obtain ⟨ρ', a1, a2, a3, a4⟩ := EPost.newCells hW hn f2 el
  refine Oc.value (w' := w.alloc (.cells (SV.concs ρ cs).toArray el)) (v := .slice (some ⟨w.heap.size, 0, none⟩) len len) ?_ ⟨ρ', a1, ?_, .inr rfl, a4⟩
  · have hpp : (parts.map fun (p : Nat × Operand) => (p.1, a.eval p.2)).toList = r.map fun p => (p.1, p.2.conc ρ) := by simpa using p1
    have hcells : (Array.range (len * (m + 1))).map (fun i => (if len * (m + 1) = 0 then #[] else z.cells)[i % (if len * (m + 1) = 0 then #[] else z.cells).size]!) = (List.replicate len te.zero).flatten.toArray := by
      by_cases hl0 : len = 0
      · subst hl0; simp
      · have : len * (m + 1) ≠ 0 := Nat.mul_ne_zero hl0 (by omega)
        simp only [this, if_false, hzc]
        rw [← hsz]
        exact range_rep te.zero len
    have hbig : ¬ len * (m + 1) > 2 ^ 24 := by omega
    simp only [execOp, ho, Instr.buildSlice, Sem.run_bind, run_und hd, Result.andThen_ok, run_szOf g2, g3, hbig, if_false, Sem.run_pure, Sem.run_ite, hz]
    by_cases hl0 : len * (m + 1) = 0
    · simp only [hl0, if_true] at hcells ⊢
      rw [hcells, hpp, f1]
      simp [newRow]
    · simp only [hl0, if_false] at hcells ⊢
      rw [hcells, hpp, f1]
      simp [newRow]
  · simp only [Eff.res, SV.conc, Value.pointer.injEq, Option.some.injEq] at a2 ⊢
    rw [← a2]
theorem toList_madeCells_two (z0 z1 : Value) (m : Nat) : (madeCells #[z0, z1] (m * 2)).toList = (List.replicate m ()).flatMap fun _ => [z0, z1] := by
  induction m with
  | zero => simp [madeCells]
  | succ m ih =>
    rw [List.replicate_succ', List.flatMap_append, ← ih, show (m + 1) * 2 = m * 2 + 1 + 1 by omega]
    unfold madeCells
    simp only [Array.toList_map, Array.toList_range, List.range_succ, List.map_append, List.map_cons, List.map_nil, List.append_assoc]
    congr 1
    have h0 : m * 2 % 2 = 0 := by omega
    have h1 : (m * 2 + 1) % 2 = 1 := by omega
    simp [h0, h1]
def opMake (tab : Tab) (T : Tm) (n : Nat) (t : TypeId) (x y : Operand) : Option Eff :=
  match look tab t with
  | some ti => match ti.sh with
    | .slc te sz by_ => match sz with
      | 1 => match look tab te with
        | some tie => match tie.zero with
          | [zv] => match ev T x, ev T y with
            | some (.v (.int _ p)), some (.v (.int _ q)) => match decide (0 ≤ p ∧ p = q ∧ by_ * p.toNat ≤ 281474976710656 ∧ p ≤ 16777216) with
              | true => some (.new (.opq n) (.row 1 p.toNat (List.replicate p.toNat (.v zv)) te))
              | false => none
            | _, _ => none
          | _ => none
        | none => none
      | 2 => match look tab te with
        | some tie => match tie.zero with
          | [z0, z1] => match ev T x, ev T y with
            | some (.v (.int _ p)), some (.v (.int _ q)) => match decide (0 ≤ p ∧ p = q ∧ by_ * p.toNat ≤ 281474976710656 ∧ p ≤ 8388608) with
              | true => some (.new (.opq n) (.row 2 p.toNat ((List.replicate p.toNat ()).flatMap fun _ => [.v z0, .v z1]) te))
              | false => none
            | _, _ => none
          | _ => none
        | none => none
      | _ => none
    | _ => none
  | none => none
theorem opMake_ok (hP : Tab.oks P tab) (hT : TmOk ρ T S a) (hW : WI w0 L ρ M S w) (hn : ¬ S n) {t : TypeId} {x y : Operand} {e : Eff} (h : opMake tab T n t x y = some e) (ho : o.op = .makeSlice t x y) :
    Oc P a o w (EPost w0 L ρ M S n e) := by
  unfold opMake at h
  split at h
  case h_2 => cases h
  rename_i ti hti
  have hti := Tab.ok_look hP hti
  obtain ⟨d, hd, hsh⟩ := hti.desc
  split at h
  case h_2 => cases h
  rename_i te sz by_ hs
  split at h
  case h_3 => cases h
  case h_1 =>
    obtain ⟨inf, rfl, g2, g3, g4⟩ := sh_desc.2.2.2.2.1 te 1 by_ (hsh.trans hs)
    split at h
    case h_2 => cases h
    rename_i tie hte
    have hte := Tab.ok_look hP hte
    obtain ⟨inf', z, i1, _, i3, i4⟩ := hte.infos
    rw [g2] at i1
    obtain rfl := Option.some.inj i1
    split at h
    case h_2 => cases h
    rename_i zv hz
    split at h
    case h_2 => cases h
    rename_i kx p ky q hx hy
    split at h
    case h_2 => cases h
    rename_i hdec
    obtain ⟨h0, rfl, hb, hm⟩ := of_decide_eq_true hdec
    obtain rfl := Option.some.inj h
    obtain ⟨m, rfl⟩ : ∃ m : Nat, p = (m : Int) := ⟨p.toNat, by omega⟩
    simp only [Int.toNat_natCast] at hb ⊢
    obtain ⟨h1, _⟩ := ev_ok hT hx
    obtain ⟨h2, _⟩ := ev_ok hT hy
    simp only [SV.conc] at h1 h2
    obtain ⟨w', r1, r2, r3⟩ := run_makeSlice_full (P := P) w w.heap.size t te inf z 1 hd g2 i3 g3 kx ky m (by omega) (by rw [g4]; exact hb) (by simp only [maxLen]; omega) (Nat.le_refl _)
    have hcs : (madeCells z.cells (m * 1)).toList = SV.concs ρ (List.replicate m (.v zv)) := by
      have : z.cells = #[zv] := by rw [hz] at i4; rw [← i4]
      rw [this, Nat.mul_one, toList_madeCells_one, concs_map]
      simp [SV.conc]
    rw [hcs] at r2
    have hscs : SV.scs S (List.replicate m (.v zv)) := by
      rw [scs_iff]; intro a ha; rw [List.eq_of_mem_replicate ha]; trivial
    obtain ⟨hW', hag⟩ := hW.rowTo (M1 := M) (fun _ _ h => h) hn (xs := List.replicate m (.v zv)) (t := te) (e := 1) (n := m) r3 (fun b hb => by cases hb) (fun g hg => .inr (r2.lt g hg).1) (ownsRow_mono r2 (Nat.zero_le _)) hscs
    refine Oc.value (w' := w') (v := .slice (some ⟨w.heap.size, 0, none⟩) m m) (by simp [execOp, ho, h1, h2, r1]) ⟨_, hag, ?_, .inr rfl, hW'⟩
    exact (conc_bindV r2 ρ n).symm
  case h_2 =>
    obtain ⟨inf, rfl, g2, g3, g4⟩ := sh_desc.2.2.2.2.1 te 2 by_ (hsh.trans hs)
    split at h
    case h_2 => cases h
    rename_i tie hte
    have hte := Tab.ok_look hP hte
    obtain ⟨inf', z, i1, _, i3, i4⟩ := hte.infos
    rw [g2] at i1
    obtain rfl := Option.some.inj i1
    split at h
    case h_2 => cases h
    rename_i z0 z1 hz
    split at h
    case h_2 => cases h
    rename_i kx p ky q hx hy
    split at h
    case h_2 => cases h
    rename_i hdec
    obtain ⟨h0, rfl, hb, hm⟩ := of_decide_eq_true hdec
    obtain rfl := Option.some.inj h
    obtain ⟨m, rfl⟩ : ∃ m : Nat, p = (m : Int) := ⟨p.toNat, by omega⟩
    simp only [Int.toNat_natCast] at hb ⊢
    obtain ⟨h1, _⟩ := ev_ok hT hx
    obtain ⟨h2, _⟩ := ev_ok hT hy
    simp only [SV.conc] at h1 h2
    obtain ⟨w', r1, r2, r3⟩ := run_makeSlice_full (P := P) w w.heap.size t te inf z 2 hd g2 i3 g3 kx ky m (by omega) (by rw [g4]; exact hb) (by simp only [maxLen]; omega) (Nat.le_refl _)
    have hcs : (madeCells z.cells (m * 2)).toList = SV.concs ρ ((List.replicate m ()).flatMap fun _ => [.v z0, .v z1]) := by
      have : z.cells = #[z0, z1] := by rw [hz] at i4; rw [← i4]
      rw [this, toList_madeCells_two, concs_map, List.map_flatMap]
      rfl
    rw [hcs] at r2
    have hscs : SV.scs S ((List.replicate m ()).flatMap fun _ => [.v z0, .v z1]) := by
      rw [scs_iff]; intro a ha
      obtain ⟨_, _, ha⟩ := List.mem_flatMap.1 ha
      simp at ha
      rcases ha with rfl | rfl <;> trivial
    obtain ⟨hW', hag⟩ := hW.rowTo (M1 := M) (fun _ _ h => h) hn (xs := (List.replicate m ()).flatMap fun _ => [.v z0, .v z1]) (t := te) (e := 2) (n := m) r3 (fun b hb => by cases hb) (fun g hg => .inr (r2.lt g hg).1) (ownsRow_mono r2 (Nat.zero_le _)) hscs
    refine Oc.value (w' := w') (v := .slice (some ⟨w.heap.size, 0, none⟩) m m) (by simp [execOp, ho, h1, h2, r1]) ⟨_, hag, ?_, .inr rfl, hW'⟩
    exact (conc_bindV r2 ρ n).symm
def evO (T : Tm) : Option Operand → Option (Option Int)
  | none => some none
  | some x => match ev T x with
    | some (.v (.int _ q)) => some (some q)
    | _ => none
def opSlice (tab : Tab) (T : Tm) (M : Mem) (n : Nat) (t : TypeId) (x : Operand) (lo hi mx : Option Operand) : Option Eff :=
  match mx with
  | some _ => none
  | none => match look tab t with
    | some ti => match ti.sh with
      | .slc _ sz _ => match ev T x with
        | some (.slc b off len cap) => match evO T lo, evO T hi with
          | some none, some none => some (.val none (.slc b off len cap))
          | some (some l), some none => some (.val (some (0 ≤ l ∧ l ≤ (len : Int) ∧ l < (cap : Int))) (.slc b (off + l.toNat * sz) (len - l.toNat) (cap - l.toNat)))
          | some none, some (some h) => some (.val (some (0 ≤ h ∧ h ≤ (cap : Int))) (.slc b off h.toNat cap))
          | some (some l), some (some h) => some (.val (some (0 ≤ l ∧ l ≤ h ∧ h ≤ (cap : Int) ∧ l < (cap : Int))) (.slc b (off + l.toNat * sz) (h.toNat - l.toNat) (cap - l.toNat)))
          | _, _ => none
        | some (.opq b) => match M b with
          | some (.rwin e m vs) => match Nat.beq e sz with
            | true => match evO T lo, evO T hi with
              | some (some l), some none => match decide (0 ≤ l ∧ l ≤ (m : Int)) with
                | true => some (.new (.opq n) (.rwin e (m - l.toNat) (vs.drop (l.toNat * e))))
                | false => none
              | _, _ => none
            | false => none
          | _ => none
        | _ => none
      | _ => none
    | none => none
theorem evO_ok (hT : TmOk ρ T S a) {x : Option Operand} {r : Option Int} (h : evO T x = some r) : (r = none ∧ x.map a.eval = none) ∨ ∃ k q, r = some q ∧ x.map a.eval = some (.int k q) := by
  cases x with
  | none => obtain rfl := Option.some.inj h; exact .inl ⟨rfl, rfl⟩
  | some x =>
    unfold evO at h
    simp only at h
    split at h
    · rename_i k q hq
      obtain rfl := Option.some.inj h
      exact .inr ⟨k, q, rfl, by rw [Option.map_some, (ev_ok hT hq).1]; rfl⟩
    · cases h
theorem sliced_add (b off l h m s : Nat) (ha : l < m) : sliced (some ⟨b, off, none⟩) l h m s = .slice (some ⟨b, off + l * s, none⟩) (h - l) (m - l) := by
  unfold sliced
  rw [if_neg (by omega)]
  simp only [Option.map_some, addr_add]
theorem sliced_zero (b off h m s : Nat) : sliced (some ⟨b, off, none⟩) 0 h m s = .slice (some ⟨b, off, none⟩) h m := by
  unfold sliced
  split <;> simp [Addr.add]
theorem opSlice_ok (hP : Tab.oks P tab) (hT : TmOk ρ T S a) (hW : WI w0 L ρ M S w) (hn : ¬ S n) {t : TypeId} {x : Operand} {lo hi mx : Option Operand} {e : Eff} (h : opSlice tab T M n t x lo hi mx = some e) (hob : e.obl) (ho : o.op = .slice t x lo hi mx) :
    Oc P a o w (EPost w0 L ρ M S n e) := by
  unfold opSlice at h
  split at h
  case h_1 => cases h
  split at h
  case h_2 => cases h
  rename_i ti hti
  have hti := Tab.ok_look hP hti
  obtain ⟨d, hd, hsh⟩ := hti.desc
  split at h
  case h_2 => cases h
  rename_i el sz by_ hs
  obtain ⟨inf, rfl, g2, g3, _⟩ := sh_desc.2.2.2.2.1 el sz by_ (hsh.trans hs)
  have hund : P.underlying t = some (.slice (P.elem t)) := by
    have := hd
    rw [this]
    simp [Program.elem, this]
  have hel : P.elem t = el := by
    have := hund.symm.trans hd
    simpa using this
  have hsz : (sizeOf (P.elem t)).run P w = .ok sz w := by rw [hel, run_szOf g2, g3]
  split at h
  case h_3 => cases h
  case h_2 b hx =>
    obtain ⟨h2, h3⟩ := ev_ok hT hx
    simp only [SV.conc] at h2
    split at h
    case h_2 => cases h
    rename_i e' m vs hb
    split at h
    case h_2 => cases h
    rename_i hbe
    obtain rfl := Nat.eq_of_beq_eq_true hbe
    split at h
    case h_2 => cases h
    rename_i l hl hh
    split at h
    case h_2 => cases h
    rename_i hdec
    have hdec := of_decide_eq_true hdec
    obtain rfl := Option.some.inj h
    rcases evO_ok hT hl with ⟨e1, _⟩ | ⟨k, q, e1, e1'⟩
    · cases e1
    obtain rfl := Option.some.inj e1
    rcases evO_ok hT hh with ⟨_, e2⟩ | ⟨k2, q2, e2, _⟩
    case inr => cases e2
    obtain ⟨_, _, w1, w2, w3, w4⟩ := hW.mem b _ hb
    have hrun : (execOp a.eval o).run P w = .ok (.value (sliced (ρ.h b).1 l.toNat m (ρ.h b).2.2 e')) w := by
      have hr := run_slice_l w t (ρ.h b).1 m (ρ.h b).2.2 hund k l hdec.1 hdec.2
      rw [hsz] at hr
      have hr' : (Instr.sliceAt t (.slice (ρ.h b).1 (ρ.h b).2.1 (ρ.h b).2.2) (some (.int k l)) none none).run P w = .ok (sliced (ρ.h b).1 l.toNat m (ρ.h b).2.2 e') w := by
        rw [run_sliceAt_slice w t _ _ _ _ hund, w2, hr]; rfl
      simp [execOp, ho, h2, e1', e2, hr']
    refine Oc.value hrun ?_
    let pp : Option Addr := if (ρ.h b).2.2 = l.toNat then (ρ.h b).1 else (ρ.h b).1.map (·.add (l.toNat * e'))
    have hag := Env.bindW_agree ρ (ρ.s b) (ρ.o b + l.toNat * e') (pp, m - l.toNat, (ρ.h b).2.2 - l.toNat) hn
    obtain ⟨q1, q2, q3⟩ := Env.bindW_self ρ n (ρ.s b) (ρ.o b + l.toNat * e') (pp, m - l.toNat, (ρ.h b).2.2 - l.toNat)
    refine ⟨ρ.bindW n (ρ.s b) (ρ.o b + l.toNat * e') (pp, m - l.toNat, (ρ.h b).2.2 - l.toNat), hag, ?_, .inr rfl, hW.addR hag trivial (fun _ _ h => h) ?_⟩
    · simp only [Eff.res, SV.conc, q3]; rfl
    · simp only [SObj.holds, q1, q2, q3]
      refine ⟨by rw [List.length_drop, w1, Nat.sub_mul], trivial, by omega, ?_⟩
      rcases w4 with w4 | ⟨w4, w5, w6, w7⟩
      · left; omega
      · rcases Nat.eq_zero_or_pos (m - l.toNat) with hz | hz
        · exact .inl hz
        · refine .inr ⟨?_, w5, w6, fun j x hj => ?_⟩
          · show pp = _
            simp only [pp]
            rw [if_neg (by omega), w4, Option.map_some, addr_add]
          · rw [List.getElem?_drop] at hj
            have := w7 _ x hj
            rw [Nat.add_assoc]; exact this
  rename_i b off len cap hx
  obtain ⟨h2, h3⟩ := ev_ok hT hx
  simp only [SV.conc] at h2
  have key : ∀ (v : SV), v.sc S → (Instr.slice t (.slice (some ⟨ρ.s b, ρ.o b + off, none⟩) len cap) (lo.map a.eval) (hi.map a.eval) none).run P w = .ok (v.conc ρ) w → ∀ ob, Oc P a o w (EPost w0 L ρ M S n (.val ob v)) := by
    intro v hv hr ob
    refine Oc.value (w' := w) (v := v.conc ρ) ?_ (EPost.same hW hv)
    have hr' : (Instr.sliceAt t (.slice (some ⟨ρ.s b, ρ.o b + off, none⟩) len cap) (lo.map a.eval) (hi.map a.eval) none).run P w = .ok (v.conc ρ) w := by
      rw [run_sliceAt_slice w t _ _ _ _ hund, hr]
    simp [execOp, ho, h2, hr']
  split at h
  · rename_i hl hh
    obtain rfl := Option.some.inj h
    rcases evO_ok hT hl with ⟨_, e1⟩ | ⟨k, q, e1, _⟩
    case inr => cases e1
    rcases evO_ok hT hh with ⟨_, e2⟩ | ⟨k, q, e2, _⟩
    case inr => cases e2
    refine key (.slc b off len cap) h3 ?_ _
    rw [e1, e2, run_slice_all w t _ len cap hund, hsz]
    simp [SV.conc, sliced_zero]
  · rename_i l hl hh
    obtain rfl := Option.some.inj h
    rcases evO_ok hT hl with ⟨e1, _⟩ | ⟨k, q, e1, e1'⟩
    · cases e1
    obtain rfl := Option.some.inj e1
    rcases evO_ok hT hh with ⟨_, e2⟩ | ⟨k2, q2, e2, _⟩
    case inr => cases e2
    have hob' : 0 ≤ l ∧ l ≤ (len : Int) ∧ l < (cap : Int) := hob
    refine key (.slc b (off + l.toNat * sz) (len - l.toNat) (cap - l.toNat)) h3 ?_ _
    rw [e1', e2, run_slice_l w t _ len cap hund k l hob'.1 hob'.2.1, hsz]
    simp only [Result.andThen, SV.conc]
    rw [sliced_add _ _ _ _ _ _ (by omega), Nat.add_assoc]
  · rename_i hh' hl hh
    obtain rfl := Option.some.inj h
    rcases evO_ok hT hl with ⟨_, e1⟩ | ⟨k, q, e1, _⟩
    case inr => cases e1
    rcases evO_ok hT hh with ⟨e2, _⟩ | ⟨k2, q2, e2, e2'⟩
    · cases e2
    obtain rfl := Option.some.inj e2
    have hob' : 0 ≤ hh' ∧ hh' ≤ (cap : Int) := hob
    refine key (.slc b off hh'.toNat cap) h3 ?_ _
    rw [e1, e2', run_slice_h w t _ len cap hund k2 hh' hob'.1 hob'.2, hsz]
    simp [SV.conc, sliced_zero]
  · rename_i l hh' hl hh
    obtain rfl := Option.some.inj h
    rcases evO_ok hT hl with ⟨e1, _⟩ | ⟨k, q, e1, e1'⟩
    · cases e1
    obtain rfl := Option.some.inj e1
    rcases evO_ok hT hh with ⟨e2, _⟩ | ⟨k2, q2, e2, e2'⟩
    · cases e2
    obtain rfl := Option.some.inj e2
    have hob' : 0 ≤ l ∧ l ≤ hh' ∧ hh' ≤ (cap : Int) ∧ l < (cap : Int) := hob
    refine key (.slc b (off + l.toNat * sz) (hh'.toNat - l.toNat) (cap - l.toNat)) h3 ?_ _
    rw [e1', e2', run_slice_lh w t _ len cap hund k k2 l hh' hob'.1 hob'.2.1 hob'.2.2.1, hsz]
    simp only [Result.andThen, SV.conc]
    rw [sliced_add _ _ _ _ _ _ (by omega), Nat.add_assoc]
  · cases h
def opSlice2 (tab : Tab) (T : Tm) (M : Mem) (n : Nat) (t : TypeId) (x : Operand) (lo hi : Option Operand) : Option Eff :=
  match look tab t with
  | some ti => match ti.sh with
    | .arr m sz _ => match lo with
      | some _ => none
      | none => match hi with
        | some _ => none
        | none => match sz with
          | 0 => none
          | _ + 1 => match ev T x with
            | some (.ptr b off) => some (.val none (.slc b off m m))
            | _ => none
    | .slc _ sz _ => match hi with
      | none => none
      | some hx => match ev T x with
        | some (.opq b) => match M b with
          | some (.rwin e m vs) => match Nat.beq e sz with
            | true => match evO T lo with
              | some l => match ev T hx with
                | some (.v (.int _ h)) => match decide (0 ≤ l.getD 0 ∧ l.getD 0 ≤ h ∧ h ≤ (m : Int)) with
                  | true => some (.new (.opq n) (.rwin e (h.toNat - (l.getD 0).toNat) ((vs.drop ((l.getD 0).toNat * e)).take ((h.toNat - (l.getD 0).toNat) * e))))
                  | false => none
                | _ => none
              | none => none
            | false => none
          | _ => none
        | _ => none
    | _ => none
  | none => none
theorem opSlice2_ok (hP : Tab.oks P tab) (hT : TmOk ρ T S a) (hW : WI w0 L ρ M S w) (hn : ¬ S n) {t : TypeId} {x : Operand} {lo hi : Option Operand} {e : Eff} (h : opSlice2 tab T M n t x lo hi = some e) (ho : o.op = .slice t x lo hi none) :
    Oc P a o w (EPost w0 L ρ M S n e) := by
  unfold opSlice2 at h
  split at h
  case h_2 => cases h
  rename_i ti hti
  have hti := Tab.ok_look hP hti
  obtain ⟨d, hd, hsh⟩ := hti.desc
  split at h
  case h_3 => cases h
  · rename_i m sz ag hs
    obtain ⟨el, rfl, g2⟩ := sh_desc.2.2.2.2.2.1 m sz ag (hsh.trans hs)
    split at h
    · cases h
    split at h
    · cases h
    cases sz with
    | zero => simp at h
    | succ sz =>
    simp only at h
    split at h
    case h_2 => cases h
    rename_i b off hx
    obtain rfl := Option.some.inj h
    obtain ⟨h2, h3⟩ := ev_ok hT hx
    simp only [SV.conc] at h2
    have hinf : ∃ i, P.info? el = some i := by
      unfold fieldSh at g2
      split at g2
      · rename_i i _ hi _; exact ⟨i, hi⟩
      · simp at g2
    obtain ⟨inf, hinf⟩ := hinf
    have hal : P.arrayLen t = m := by simp [Program.arrayLen, hd]
    have hel : P.elem t = el := by simp [Program.elem, hd]
    have hund : P.underlying t = some (.array (P.arrayLen t) (P.elem t)) := by rw [hal, hel]; exact hd
    have hr := run_sliceAt_array_all w t ⟨ρ.s b, ρ.o b + off, none⟩ hund
    rw [hel, run_szOf hinf, hal] at hr
    refine Oc.value (w' := w) (v := SV.conc ρ (.slc b off m m)) ?_ (EPost.same hW (v := .slc b off m m) h3)
    have hr' : (Instr.sliceAt t (.pointer (some ⟨ρ.s b, ρ.o b + off, none⟩)) none none none).run P w = .ok (SV.conc ρ (.slc b off m m)) w := by
      rw [hr]
      show Result.ok _ w = _
      simp only [slicedAt, SV.conc, Nat.zero_mul, Nat.sub_zero]
      split <;> simp [Addr.add]
    simp [execOp, ho, h2, hr']
  · rename_i el sz by_ hs
    obtain ⟨inf, rfl, g2, g3, _⟩ := sh_desc.2.2.2.2.1 el sz by_ (hsh.trans hs)
    have hund : P.underlying t = some (.slice (P.elem t)) := by
      have := hd
      rw [this]
      simp [Program.elem, this]
    have hel : P.elem t = el := by
      have := hund.symm.trans hd
      simpa using this
    have hsz : (sizeOf (P.elem t)).run P w = .ok sz w := by rw [hel, run_szOf g2, g3]
    split at h
    · cases h
    rename_i hx' 
    split at h
    case h_2 => cases h
    rename_i b hx
    obtain ⟨h2, h3⟩ := ev_ok hT hx
    simp only [SV.conc] at h2
    split at h
    case h_2 => cases h
    rename_i e' m vs hb
    split at h
    case h_2 => cases h
    rename_i hbe
    obtain rfl := Nat.eq_of_beq_eq_true hbe
    split at h
    case h_2 => cases h
    rename_i l hl
    split at h
    case h_2 => cases h
    rename_i kh hh hhv
    split at h
    case h_2 => cases h
    rename_i hdec
    have hdec := of_decide_eq_true hdec
    obtain rfl := Option.some.inj h
    obtain ⟨e2, _⟩ := ev_ok hT hhv
    simp only [SV.conc] at e2
    obtain ⟨_, _, w1, w2, w3, w4⟩ := hW.mem b _ hb
    obtain ⟨l0, hl0⟩ : ∃ l0, l.getD 0 = l0 := ⟨_, rfl⟩
    rw [hl0] at hdec ⊢
    have hrun : (execOp a.eval o).run P w = .ok (.value (sliced (ρ.h b).1 l0.toNat hh.toNat (ρ.h b).2.2 e')) w := by
      have hr' : (Instr.sliceAt t (.slice (ρ.h b).1 (ρ.h b).2.1 (ρ.h b).2.2) (lo.map a.eval) (some (.int kh hh)) none).run P w = .ok (sliced (ρ.h b).1 l0.toNat hh.toNat (ρ.h b).2.2 e') w := by
        rcases evO_ok hT hl with ⟨e1, e1'⟩ | ⟨k, q, e1, e1'⟩
        · rw [e1] at hl0
          obtain rfl : (0 : Int) = l0 := hl0
          have hr := run_slice_h w t (ρ.h b).1 m (ρ.h b).2.2 hund kh hh (by omega) (by omega)
          rw [hsz] at hr
          rw [e1', run_sliceAt_slice w t _ _ _ _ hund, w2, hr]; rfl
        · rw [e1] at hl0
          obtain rfl : q = l0 := hl0
          have hr := run_slice_lh w t (ρ.h b).1 m (ρ.h b).2.2 hund k kh q hh hdec.1 hdec.2.1 (by omega)
          rw [hsz] at hr
          rw [e1', run_sliceAt_slice w t _ _ _ _ hund, w2, hr]; rfl
      simp [execOp, ho, h2, e2, hr']
    refine Oc.value hrun ?_
    let pp : Option Addr := if (ρ.h b).2.2 = l0.toNat then (ρ.h b).1 else (ρ.h b).1.map (·.add (l0.toNat * e'))
    have hag := Env.bindW_agree ρ (ρ.s b) (ρ.o b + l0.toNat * e') (pp, hh.toNat - l0.toNat, (ρ.h b).2.2 - l0.toNat) hn
    obtain ⟨q1, q2, q3⟩ := Env.bindW_self ρ n (ρ.s b) (ρ.o b + l0.toNat * e') (pp, hh.toNat - l0.toNat, (ρ.h b).2.2 - l0.toNat)
    refine ⟨ρ.bindW n (ρ.s b) (ρ.o b + l0.toNat * e') (pp, hh.toNat - l0.toNat, (ρ.h b).2.2 - l0.toNat), hag, ?_, .inr rfl, hW.addR hag trivial (fun _ _ h => h) ?_⟩
    · simp only [Eff.res, SV.conc, q3]; rfl
    · simp only [SObj.holds, q1, q2, q3]
      have hm1 : l0.toNat ≤ hh.toNat := by omega
      have hm2 : hh.toNat ≤ m := by omega
      have hle : (hh.toNat - l0.toNat) * e' ≤ (m - l0.toNat) * e' := Nat.mul_le_mul_right _ (by omega)
      refine ⟨by rw [List.length_take, List.length_drop, w1, ← Nat.sub_mul]; omega, trivial, by omega, ?_⟩
      rcases w4 with w4 | ⟨w4, w5, w6, w7⟩
      · left; omega
      · rcases Nat.eq_zero_or_pos (hh.toNat - l0.toNat) with hz | hz
        · exact .inl hz
        · refine .inr ⟨?_, w5, w6, fun j x hj => ?_⟩
          · show pp = _
            simp only [pp]
            rw [if_neg (by omega), w4, Option.map_some, addr_add]
          · rw [List.getElem?_take] at hj
            split at hj
            · rw [List.getElem?_drop] at hj
              have := w7 _ x hj
              rw [Nat.add_assoc]; exact this
            · cases hj
def opToArr (tab : Tab) (T : Tm) (M : Mem) (t : TypeId) (x : Operand) : Option Eff :=
  match look tab t with
  | some ti => match ti.sh with
    | .arr m _ _ => match ev T x with
      | some (.opq b) => match M b with
        | some (.rwin _ k _) => some (.val (some (m ≤ k ∧ 0 < k)) (.ptr b 0))
        | _ => none
      | some (.slc b off k _) => some (.val (some (m ≤ k)) (.ptr b off))
      | _ => none
    | _ => none
  | none => none
theorem opToArr_ok (hP : Tab.oks P tab) (hT : TmOk ρ T S a) (hW : WI w0 L ρ M S w) {t : TypeId} {x : Operand} {e : Eff} (h : opToArr tab T M t x = some e) (hob : e.obl) (ho : o.op = .sliceToArrayPointer t x) :
    Oc P a o w (EPost w0 L ρ M S n e) := by
  unfold opToArr at h
  split at h
  case h_2 => cases h
  rename_i ti hti
  have hti := Tab.ok_look hP hti
  obtain ⟨d, hd, hsh⟩ := hti.desc
  split at h
  case h_2 => cases h
  rename_i m sz ag hs
  obtain ⟨el, rfl, g2⟩ := sh_desc.2.2.2.2.2.1 m sz ag (hsh.trans hs)
  split at h
  case h_3 => cases h
  · rename_i b hx
    obtain ⟨h2, h3⟩ := ev_ok hT hx
    simp only [SV.conc] at h2
    split at h
    case h_2 => cases h
    rename_i e' k vs hb
    obtain rfl := Option.some.inj h
    have hob' : m ≤ k ∧ 0 < k := hob
    obtain ⟨_, _, _, rm, _, rr⟩ := hW.mem b _ hb
    rcases rr with rr | ⟨rp, _⟩
    · omega
    simp only [rp, rm] at h2
    refine Oc.value (w' := w) (v := SV.conc ρ (.ptr b 0)) ?_ (EPost.same hW (v := .ptr b 0) h3)
    simp [execOp, ho, Instr.arrayAt, h2, run_und hd, SV.conc, show ¬ k < m by omega]
  · rename_i b off k cap hx
    obtain ⟨h2, h3⟩ := ev_ok hT hx
    simp only [SV.conc] at h2
    obtain rfl := Option.some.inj h
    have hob' : m ≤ k := hob
    refine Oc.value (w' := w) (v := SV.conc ρ (.ptr b off)) ?_ (EPost.same hW (v := .ptr b off) h3)
    simp [execOp, ho, Instr.arrayAt, h2, run_und hd, SV.conc, show ¬ k < m by omega]
def opAppend (pf : List (Nat × (Mem → List SV → Option (List Nat × SV)))) (tab : Tab) (T : Tm) (M : Mem) (n : Nat) (t : TypeId) (x y : Operand) : Option Eff :=
  match look pf 2000 with
  | some _ => match look tab t with
    | some ti => match ti.sh with
      | .slc te e bytes => match look tab te with
        | some tie => match Nat.beq tie.zero.length e && Nat.ble 1 e with
          | true => match ev T x with
            | some (.opq j) => match M j with
              | some (.row e2 m xs te2) => match Nat.beq e2 e && Nat.beq te2 te with
                | true => match ev T y with
                  | some (.slc j2 off len _) => match M j2 with
                    | some ob => match ob.list with
                      | some cs => match takeD cs off (len * e) with
                        | some news => match allOne news with
                          | true => some (.mv (some ((m + len) * bytes ≤ 140737488355328 ∧ m + len < 9223372036854775808)) j j2 (.opq n) (.row e (m + len) (xs ++ news) te))
                          | false => none
                        | none => none
                      | none => none
                    | none => none
                  | _ => none
                | false => none
              | _ => none
            | _ => none
          | false => none
        | none => none
      | _ => none
    | none => none
  | none => none
theorem WI.pinAt {w0 w : World} {L : List (Nat × Nat)} {ρ : Env} {M : Mem} {S : Nat → Prop} (hW : WI w0 L ρ M S w) {j : Nat} (hj : S j) : WI w0 L ρ (upd M j (.pin [])) S w := by
  have hsub : ∀ i o, upd M j (.pin []) i = some o → (i = j ∧ o = .pin []) ∨ (i ≠ j ∧ M i = some o) := by
    intro i o h
    unfold upd at h
    split at h
    · rename_i e; exact .inl ⟨e.symm, (Option.some.inj h).symm⟩
    · rename_i e; exact .inr ⟨fun h => e h.symm, h⟩
  refine ⟨fun i o hi => ?_, fun i k oi ok hi hk hne ho ho' => ?_, fun i o hi ho => ?_, hW.lid, hW.keep, hW.size, hW.os, hW.tape, hW.output⟩
  · rcases hsub i o hi with ⟨rfl, rfl⟩ | ⟨_, h⟩
    · exact ⟨hj, (by intro p hp; cases hp), (by intro p hp; cases hp)⟩
    · exact hW.mem i o h
  · rcases hsub i oi hi with ⟨rfl, rfl⟩ | ⟨_, h⟩
    · exact ho.elim
    · rcases hsub k ok hk with ⟨rfl, rfl⟩ | ⟨_, h'⟩
      · exact ho'.elim
      · exact hW.dist i k oi ok h h' hne ho ho'
  · rcases hsub i o hi with ⟨rfl, rfl⟩ | ⟨_, h⟩
    · exact ho.elim
    · exact hW.new i o h ho
theorem opAppend_ok {pf : List (Nat × (Mem → List SV → Option (List Nat × SV)))} (hP : Tab.oks P tab) (hT : TmOk ρ T S a) (hW : WI w0 L ρ M S w) (hn : ¬ S n) {t t2 : TypeId} {x y : Operand} {e : Eff} (h : opAppend pf tab T M n t x y = some e) (hob : e.obl)
    (ho : o.op = .call { callee := .builtin .append, args := #[x, y], argTypes := #[t, t2] }) (ht2 : t2 = t) : Oc P a o w (EPost w0 L ρ M S n e) := by
  subst ht2
  unfold opAppend at h
  split at h
  case h_2 => cases h
  split at h
  case h_2 => cases h
  rename_i ti hti
  split at h
  case h_2 => cases h
  rename_i te sz bytes hsh
  split at h
  case h_2 => cases h
  rename_i tie hte
  split at h
  case h_2 => cases h
  rename_i hze
  split at h
  case h_2 => cases h
  rename_i j hx
  split at h
  case h_2 => cases h
  rename_i e2 m xs te2 hj
  split at h
  case h_2 => cases h
  rename_i hee
  split at h
  case h_2 => cases h
  rename_i j2 off len cap hy
  split at h
  case h_2 => cases h
  rename_i ob hj2
  split at h
  case h_2 => cases h
  rename_i cs hl
  split at h
  case h_2 => cases h
  rename_i news hnews
  split at h
  case h_2 => cases h
  rename_i hone
  obtain rfl := Option.some.inj h
  simp only [Bool.and_eq_true] at hze hee
  obtain ⟨hz, he⟩ := hze
  have hz := Nat.eq_of_beq_eq_true hz
  have he : 0 < sz := Nat.le_of_ble_eq_true he
  obtain rfl := Nat.eq_of_beq_eq_true hee.1
  obtain rfl := Nat.eq_of_beq_eq_true hee.2
  have hfit : (m + len) * bytes ≤ 140737488355328 ∧ m + len < 9223372036854775808 := hob
  obtain ⟨h1, _⟩ := ev_ok hT hx
  obtain ⟨h2, _⟩ := ev_ok hT hy
  have hti := Tab.ok_look hP hti
  have hte := Tab.ok_look hP hte
  obtain ⟨d, hd1, hd2⟩ := hti.desc
  obtain ⟨inf, rfl, g2, g3, g4⟩ := sh_desc.2.2.2.2.1 te2 e2 bytes (hd2.trans hsh)
  obtain ⟨inf', z, i1, _, i3, i4⟩ := hte.infos
  rw [g2] at i1
  obtain rfl := Option.some.inj i1
  have hzs : z.cells.size = e2 := by rw [← hz, ← i4]; simp
  obtain ⟨q1, q2⟩ := takeD_eq _ _ _ _ hnews
  obtain ⟨hSj, hscr, _⟩ := hW.mem j _ hj
  obtain ⟨_, hscb, _⟩ := hW.mem j2 _ hj2
  have hscs : SV.scs S cs := by cases ob <;> simp [SObj.list] at hl <;> (subst hl; exact hscb)
  have hscn : SV.scs S news := scs_of_mem hscs (fun x hx => by rw [q2] at hx; exact List.mem_of_mem_drop (List.mem_of_mem_take hx))
  have hnl : news.length = len * e2 := by rw [q2]; simp; omega
  have hcell : ∀ jj u, (SV.concs ρ news)[jj]? = some u → w.cell? ((⟨ρ.s j2, ρ.o j2 + off, none⟩ : Addr).add jj) = some u := by
    intro jj u hu
    rw [concs_map, List.getElem?_map] at hu
    cases hlj : news[jj]? with
    | none => simp [hlj] at hu
    | some cc =>
      simp [hlj] at hu
      subst hu
      have hjl : jj < news.length := by
        rcases Nat.lt_or_ge jj news.length with h | h
        · exact h
        · rw [List.getElem?_eq_none h] at hlj; cases hlj
      have hg' : get cs (off + jj) = some cc := by
        rw [get_eq, ← hlj, q2, List.getElem?_take_of_lt (by omega), List.getElem?_drop]
      rw [addr_add, Nat.add_assoc]
      exact hW.cell hj2 hl hg'
  have hone' : ∀ u ∈ SV.concs ρ news, u.oneCell' = true := by
    intro u hu
    rw [concs_map] at hu
    obtain ⟨v, hv, rfl⟩ := List.mem_map.1 hu
    exact one_conc (allOne_mem hone v hv)
  have hown := hW.owns hj he
  obtain ⟨v', w', row, r1, r2, r3, r4, r5⟩ := run_append_two (P := P) w t2 o.type te2 inf z e2 hd1 g2 i3 g3 hzs he _ m _ hown ⟨ρ.s j2, ρ.o j2 + off, none⟩ len cap (SV.concs ρ news) (by rw [concs_length, hnl]) hcell hone' (by simp only [maxLen]; omega) (by rw [g4]; exact hfit.1)
  have hrun : (execOp a.eval o).run P w = .ok (.value v') w' := by
    simp only [SV.conc] at h1 h2 r1
    simp [execOp, ho, resolve, invoke, builtin, h1, h2, r1]
  rw [← concs_append] at r2
  have hsub : ∀ kk oo, (fun q => if q = j then none else M q : Mem) kk = some oo → upd M j (.pin []) kk = some oo := fun kk oo hk => by
    simp only at hk
    split at hk
    · cases hk
    · rename_i hne; rw [upd_other _ _ (Ne.symm hne)]; exact hk
  have hjocc : ∀ b, ((SV.opq j).conc ρ).ownBlock = some b → (SObj.row e2 m xs te2).occ ρ j ∧ ρ.s j = b := by
    intro b hb
    obtain ⟨_, _, _, _, hh⟩ := hW.mem j _ hj
    rcases hh with ⟨hh, _⟩ | ⟨cap', sp, hh, _⟩
    · simp [SV.conc, hh, Value.ownBlock] at hb
    · simp only [SV.conc, hh, Value.ownBlock, Option.some.injEq] at hb
      exact ⟨by simp [SObj.occ, hh], hb⟩
  obtain ⟨hW', hag⟩ := (hW.pinAt hSj).rowTo (M1 := upd M j (.pin [])) (fun _ _ h => h) (i := n) hn (xs := xs ++ news) (t := te2) (e := e2) (n := m + len) r3 (fun b hb => by
    rcases r4 with r4 | r4
    · rw [r4] at hb; cases hb
    · rw [r4] at hb
      obtain ⟨hocc, hs⟩ := hjocc b hb
      refine ⟨fun kk oo hk ck => ?_, ?_⟩
      · rw [← hs]
        by_cases hkj : j = kk
        · subst hkj; rw [upd_same] at hk; obtain rfl := Option.some.inj hk; exact ck.elim
        · rw [upd_other _ _ hkj] at hk
          exact hW.dist kk j oo _ hk hj (fun e => hkj e.symm) ck hocc
      · rw [← hs]; exact hW.new j _ hj hocc) r5 r2 (scs_append hscr hscn)
  exact Oc.value hrun ⟨ρ.bindV n v', hag, (conc_bindV r2 ρ n).symm, .inr rfl, hW'⟩
def Enters (P : Program) (g : FuncId) : Prop := ∃ fn, P.funcs[g]? = some fn ∧ (fn.name == "runtime.NumGoroutine") = false ∧ fn.body.isNone = false
theorem run_callFunc {g : FuncId} (h : Enters P g) (args : Array Value) : (callFunc g args).run P w = .ok (.enter g args) w := by
  obtain ⟨fn, h1, h2, h3⟩ := h
  simp only [callFunc, Sem.run_bind, run_program, Result.andThen_ok, h1, h2, h3, Bool.false_eq_true, if_false, Sem.run_pure]
/-- A function that only computes: its value, and new blocks at most. 'F': of what is told and the arguments: the numbers of the told blocks that it looks at, and its value. -/
structure Pure (P : Program) (g : FuncId) (F : Mem → List SV → Option (List Nat × SV)) : Prop where
  ent : Enters P g
  sc : ∀ S M args bs v, F M args = some (bs, v) → SV.scs S args → v.sc S
  cong : ∀ M M' args bs v, F M args = some (bs, v) → (∀ b ∈ bs, M' b = M b) → F M' args = some (bs, v)
  run : ∀ w0 L ρ M S args bs v w, WI w0 L ρ M S w → F M args = some (bs, v) → Calls P g (SV.concs ρ args).toArray w fun e w' => e = .returned (v.conc ρ) ∧ Ext w w'
/-- A function whose value goes by its arguments alone. -/
structure PureV (P : Program) (g : FuncId) (F : List SV → Option SV) : Prop where
  ent : Enters P g
  sc : ∀ S args v, F args = some v → SV.scs S args → v.sc S
  run : ∀ ρ args v w, F args = some v → Calls P g (SV.concs ρ args).toArray w fun e w' => e = .returned (v.conc ρ) ∧ Ext w w'
def plainF (F : List SV → Option SV) : Mem → List SV → Option (List Nat × SV) := fun _ args => match F args with
  | some v => some ([], v)
  | none => none
theorem plainF_some {F : List SV → Option SV} {M : Mem} {args : List SV} {bs : List Nat} {v : SV} (h : plainF F M args = some (bs, v)) : bs = [] ∧ F args = some v := by
  unfold plainF at h
  split at h
  · rename_i v' hv
    obtain ⟨rfl, rfl⟩ := Prod.mk.inj (Option.some.inj h)
    exact ⟨rfl, hv⟩
  · cases h
theorem PureV.lift {P : Program} {g : FuncId} {F : List SV → Option SV} (h : PureV P g F) : Pure P g (plainF F) where
  ent := h.ent
  sc S M args bs v hv hs := h.sc S args v (plainF_some hv).2 hs
  cong M M' args bs v hv _ := by
    obtain ⟨rfl, hv2⟩ := plainF_some hv
    unfold plainF
    rw [hv2]
  run w0 L ρ M S args bs v w _ hv := h.run ρ args v w (plainF_some hv).2
def blkOf : SV → List Nat
  | .ptr i _ => [i]
  | .opq i => [i]
  | .mp i => [i]
  | _ => []
/-- A block that is new since then, of the number 'i'. -/
theorem WI.newAt (h : WI w0 L ρ M S w) {i : Nat} (hi : ¬ S i) {o : SObj} {w' : World} {b : Nat} (hx : Ext w w') (hb : w.heap.size ≤ b) (ho : o.sc S)
    (hh : ∀ ρ', Env.agree S ρ ρ' → ρ'.s i = b → ρ'.o i = 0 → o.holds w0 L ρ' i w') :
    WI w0 L (ρ.bind i b) (upd M i o) (fun j => S j ∨ j = i) w' ∧ Env.agree S ρ (ρ.bind i b) := by
  have ha : Env.agree S ρ (ρ.bind i b) := Env.bind_agree ρ b hi
  have up : ∀ j, S j → S j ∨ j = i := fun _ => .inl
  have hs : (ρ.bind i b).s i = b := by simp [Env.bind]
  have h' := h.ext hx
  refine ⟨⟨?_, ?_, ?_, ?_, h'.keep, h'.size, h'.os, h'.tape, h'.output⟩, ha⟩
  · intro j o' hj
    by_cases e : i = j
    · subst e
      rw [upd_same] at hj
      obtain rfl := Option.some.inj hj
      exact ⟨.inr rfl, SObj.sc_mono up ho, hh _ ha hs (by simp [Env.bind])⟩
    · rw [upd_other _ _ e] at hj
      obtain ⟨h1, h2, h3⟩ := h'.mem j o' hj
      exact ⟨.inl h1, SObj.sc_mono up h2, SObj.holds_agree ha h1 h2 (fun _ => rfl) h3⟩
  · intro j k oj ok hj hk hne cj ck
    by_cases e : i = j
    · subst e
      rw [upd_other _ _ hne] at hk
      obtain ⟨h1, h2, h3⟩ := h.mem k ok hk
      have := SObj.holds_lt h3 ((SObj.occ_agree ha h1).1 ck)
      rw [hs, (ha k h1).1]; omega
    · rw [upd_other _ _ e] at hj
      obtain ⟨h1, h2, h3⟩ := h.mem j oj hj
      have l1 := SObj.holds_lt h3 ((SObj.occ_agree ha h1).1 cj)
      by_cases e' : i = k
      · subst e'
        rw [hs, (ha j h1).1]; omega
      · rw [upd_other _ _ e'] at hk
        obtain ⟨g1, g2, g3⟩ := h.mem k ok hk
        rw [(ha j h1).1, (ha k g1).1]
        exact h.dist j k oj ok hj hk hne ((SObj.occ_agree ha h1).1 cj) ((SObj.occ_agree ha g1).1 ck)
  · intro j oj hj cj
    by_cases e : i = j
    · subst e; right; rw [hs]; have := h.size; omega
    · rw [upd_other _ _ e] at hj
      obtain ⟨h1, h2, h3⟩ := h.mem j oj hj
      rw [(ha j h1).1]
      exact h.new j oj hj ((SObj.occ_agree ha h1).1 cj)
  · intro p hp
    obtain ⟨h1, h2⟩ := h.lid p hp
    exact ⟨.inl h1, by rw [(ha p.1 h1).1, h2]⟩
/-- A function that makes a slice. 'F': of what is told and the arguments: the cells of an element, how many elements, their type; the cells. Or a map without entries: then 'F' says whether its keys are pairs. -/
structure Maker (P : Program) (g : FuncId) (F : Mem → List SV → Option (List Nat × SV)) : Prop where
  ent : Enters P g
  cong : ∀ M M' args, (∀ a ∈ args, ∀ b ∈ blkOf a, M' b = M b) → F M' args = F M args
  run : ∀ w0 L ρ M S args e m te xs w, WI w0 L ρ M S w → F M args = some ([e, m, te], .agg xs) → SV.scs S args → SV.scs S xs ∧ Calls P g (SV.concs ρ args).toArray w fun en w' => ∃ l, en = .returned l ∧ Ext w w' ∧ w'.ownsRow w.heap.size te e l m (SV.concs ρ xs)
  runM : ∀ w0 L ρ M S args pk w, WI w0 L ρ M S w → F M args = some ([], .v (.bool pk)) → SV.scs S args → Calls P g (SV.concs ρ args).toArray w fun en w' => ∃ b, en = .returned (.map (some b)) ∧ Ext w w' ∧ w.heap.size ≤ b ∧ w'.heap[b]? = some (kobj [])
abbrev PF := List (Nat × (Mem → List SV → Option (List Nat × SV)))
/-- What an entry says: below 1000 of a function that computes, below 2000 of one that makes a slice; number 2000 lets append run as an operation. -/
def PF.one (P : Program) (x : Nat × (Mem → List SV → Option (List Nat × SV))) : Prop :=
  match Nat.blt x.1 1000 with
  | true => Pure P x.1 x.2
  | false => match Nat.blt x.1 2000 with
    | true => Maker P (x.1 - 1000) x.2
    | false => True
def PF.oks (P : Program) : PF → Prop
  | [] => True
  | x :: l => PF.one P x ∧ PF.oks P l
theorem PF.ok_one : ∀ {pf : PF}, PF.oks P pf → ∀ {g F}, look pf g = some F → PF.one P (g, F)
  | [], _, g, F, h => by simp [look] at h
  | (k, x) :: l, h, g, F, hl => by
    rw [look_cons] at hl
    split at hl
    · rename_i e; obtain rfl := Option.some.inj hl; subst e; exact h.1
    · exact PF.ok_one h.2 hl
theorem PF.ok_look {pf : PF} (h : PF.oks P pf) {g F} (hl : look pf g = some F) (hg : Nat.blt g 1000 = true) : Pure P g F := by
  have := PF.ok_one h hl
  unfold PF.one at this
  simp only [hg] at this
  exact this
theorem PF.ok_make {pf : PF} (h : PF.oks P pf) {g F} (hl : look pf (g + 1000) = some F) (hg : Nat.blt g 1000 = true) : Maker P g F := by
  generalize hk : g + 1000 = k at hl
  have := PF.ok_one h hl
  unfold PF.one at this
  have hg : g < 1000 := by simpa [Nat.blt_eq] using hg
  have h1 : Nat.blt k 1000 = false := by
    cases hb : Nat.blt k 1000 with
    | false => rfl
    | true => have : k < 1000 := by simpa [Nat.blt_eq] using hb
              omega
  have h2 : Nat.blt k 2000 = true := by rw [Nat.blt_eq]; omega
  have h3 : k - 1000 = g := by omega
  simp only [h1, h2, h3] at this
  exact this
/-- What a called function value is: a function and what it has captured. -/
def calleeOf : SV → Option (FuncId × List SV)
  | .v (.func (.func g) first caps) => match first.toList with
    | [] => some (g, caps.toList.map .v)
    | _ => none
  | .fn g caps => some (g, caps)
  | _ => none
def opCallM (pf : PF) (T : Tm) (M : Mem) (n : Nat) (g : FuncId) (caps : List SV) (args : Array Operand) : Option Eff :=
  match caps with
  | [] => match look pf (g + 1000) with
    | some F => match evs T args.toList with
      | some vs => match F M vs with
        | some (hd, v) => match hd with
          | [e, m, te] => match v with
            | .agg xs => some (.new (.opq n) (.row e m xs te))
            | _ => none
          | [] => match v with
            | .v (.bool pk) => some (.new (.mp n) (.kmap pk true []))
            | _ => none
          | _ => none
        | none => none
      | none => none
    | none => none
  | _ => none
def opCall (pf : PF) (T : Tm) (M : Mem) (n : Nat) (f : Operand) (args : Array Operand) : Option Eff :=
  match ev T f with
  | some fv => match calleeOf fv with
    | some (g, caps) => match Nat.blt g 1000 with
      | true => match look pf g with
        | some F => match evs T args.toList with
          | some vs => match F M (vs ++ caps) with
            | some (bs, v) => some (.call g (vs ++ caps) bs v)
            | none => none
          | none => none
        | none => opCallM pf T M n g caps args
      | false => none
    | none => none
  | none => none
theorem calleeOf_ok {fv : SV} {g : FuncId} {caps : List SV} (h : calleeOf fv = some (g, caps)) : fv.conc ρ = .func (.func g) #[] (SV.concs ρ caps).toArray ∧ (fv.sc S → SV.scs S caps) := by
  unfold calleeOf at h
  split at h
  · rename_i g' first cs
    split at h
    · rename_i hf
      have : first = #[] := by cases first; simpa using hf
      subst this
      obtain ⟨rfl, rfl⟩ := Prod.mk.inj (Option.some.inj h)
      exact ⟨by simp [SV.conc, concs_v], fun _ => scs_v S _⟩
    · cases h
  · obtain ⟨rfl, rfl⟩ := Prod.mk.inj (Option.some.inj h)
    exact ⟨rfl, fun hs => hs⟩
  · cases h
theorem run_callValue {f : Operand} {args ts : Array _} {g : FuncId} {caps : Array Value} (hg : Enters P g) (hf : a.eval f = .func (.func g) #[] caps) (ho : o.op = .call { callee := .value f, args := args, argTypes := ts }) :
    (execOp a.eval o).run P w = .ok (.enter g (args.map a.eval ++ caps)) w := by
  simp [execOp, ho, resolve, hf, Deferred.ofValue, invoke, run_callFunc hg]
theorem opCall_ok {pf : PF} (hF : PF.oks P pf) (hT : TmOk ρ T S a) (hW : WI w0 L ρ M S w) (hn : ¬ S n) {f : Operand} {args ts : Array _} {e : Eff} (h : opCall pf T M n f args = some e)
    (ho : o.op = .call { callee := .value f, args := args, argTypes := ts }) : Oc P a o w (EPost w0 L ρ M S n e) := by
  unfold opCall at h
  split at h
  case h_2 => cases h
  rename_i fv hfv
  split at h
  case h_2 => cases h
  rename_i g caps hc
  split at h
  case h_2 => cases h
  rename_i hgb
  obtain ⟨h1, h2⟩ := ev_ok hT hfv
  obtain ⟨h3, h4⟩ := calleeOf_ok (ρ := ρ) (S := S) hc
  split at h
  case h_2 =>
    unfold opCallM at h
    split at h
    case h_2 => cases h
    split at h
    case h_2 => cases h
    rename_i F hg
    have hg := PF.ok_make hF hg hgb
    split at h
    case h_2 => cases h
    rename_i vs hvs
    split at h
    case h_2 => cases h
    rename_i hd v hv
    obtain ⟨h5, h6⟩ := evs_ok hT hvs
    have hargs : args.map a.eval ++ (SV.concs ρ []).toArray = (SV.concs ρ vs).toArray := by
      rw [← h5]; apply Array.ext'; simp [SV.concs]
    have hrun := run_callValue (P := P) (w := w) (o := o) hg.ent (h1.trans h3) ho
    split at h
    case h_3 => cases h
    case h_2 =>
      split at h
      case h_2 => cases h
      rename_i pk
      obtain rfl := Option.some.inj h
      have r1 := hg.runM w0 L ρ M S vs pk w hW hv h6
      unfold Oc
      rw [hrun]
      simp only
      rw [hargs]
      refine r1.mono fun en w' ⟨b, he, hx, hb, hm⟩ => ⟨_, he, ?_⟩
      obtain ⟨hW', hag⟩ := hW.newAt (i := n) hn (o := .kmap pk true []) (b := b) hx hb trivial (fun ρ' _ hs' ho' => ⟨by simp, .inl ⟨ho', by rw [hs']; exact hm⟩⟩)
      exact ⟨_, hag, by simp [Eff.res, SV.conc, Env.bind], .inr rfl, hW'⟩
    rename_i sz m te
    split at h
    case h_2 => cases h
    rename_i xs
    obtain rfl := Option.some.inj h
    obtain ⟨r0, r1⟩ := hg.run w0 L ρ M S vs sz m te xs w hW hv h6
    unfold Oc
    rw [hrun]
    simp only
    rw [hargs]
    refine r1.mono fun en w' ⟨l, he, hx, hown⟩ => ⟨l, he, ?_⟩
    obtain ⟨hW', hag⟩ := (hW.ext hx).rowAs (M1 := M) (row := none) (fun _ _ h => h) hn (xs := xs) (t := te) (e := sz) (n := m) ⟨rfl, rfl, rfl, Nat.le_refl _, fun _ _ _ => rfl⟩ (fun b hb => by cases hb) (fun gb hgv => by
      have hge := (hown.lt gb hgv).1
      refine ⟨fun k ok hk ck => ?_, .inr (by have := hW.size; omega)⟩
      have := SObj.holds_lt (hW.mem k ok hk).2.2 ck
      omega) (ownsRow_mono hown (Nat.zero_le _)) r0
    exact ⟨ρ.bindV n l, hag, (conc_bindV hown ρ n).symm, .inr rfl, hW'⟩
  rename_i F hg
  have hg := PF.ok_look hF hg hgb
  split at h
  case h_2 => cases h
  rename_i vs hvs
  split at h
  case h_2 => cases h
  rename_i bs v hv
  obtain rfl := Option.some.inj h
  obtain ⟨h5, h6⟩ := evs_ok hT hvs
  have hargs : args.map a.eval ++ (SV.concs ρ caps).toArray = (SV.concs ρ (vs ++ caps)).toArray := by
    rw [concs_append, ← h5]; apply Array.ext'; simp
  have hrun := run_callValue (P := P) (w := w) (o := o) hg.ent (h1.trans h3) ho
  unfold Oc
  rw [hrun]
  simp only
  rw [hargs]
  refine (hg.run w0 L ρ M S (vs ++ caps) bs v w hW hv).mono fun e w' ⟨he, hx⟩ => ⟨v.conc ρ, he, ρ, Env.agree.refl S ρ, rfl, ?_, hW.ext hx⟩
  exact hg.sc S _ _ _ _ hv (scs_append h6 (h4 h2))
def opF (tab : Tab) (pf : PF) (T : Tm) (M : Mem) (n : Nat) (op : Op) : Option Eff :=
  match op with
  | .move x => opMove T x
  | .assign x => opMove T x
  | .pick c x y => opPick T c x y
  | .alloc t => opAlloc tab n t
  | .box t x => opBox T n t x
  | .build t parts => opBuild tab T t parts
  | .buildSlice t len parts => opBuildSlice tab T n t len parts
  | .makeSlice t x y => opMake tab T n t x y
  | .load t x => opLoad tab T M t x
  | .store t x y => opStore tab T M t x y
  | .nilCheck x => opNil T x
  | .binOp b t x y _ => opBin tab T b t x y
  | .unOp u _ x => opUn T u x
  | .convert s d x => opConv tab T s d x
  | .makeFunc f first caps => opMakeFunc T f first caps
  | .fieldAddr s x f => opFieldAddr tab T s x f
  | .field s x f => opField tab T s x f
  | .indexAddr t x i => opIndexAddr tab T M t x i
  | .extract x i => opExtract T x i
  | .slice t x lo hi mx => match mx with
    | some _ => none
    | none => match opSlice2 tab T M n t x lo hi with
      | some e => some e
      | none => opSlice tab T M n t x lo hi none
  | .sliceToArrayPointer t x => opToArr tab T M t x
  | .lookup t x y ok => opLookup tab T M t x y ok
  | .makeMap t r => opMakeMap tab n t r
  | .mapUpdate t x y z => opMapPut tab T M t x y z
  | .insert t x y z => opMapPut tab T M t x y z
  | .mapEntry t x y => opMapEntry tab T M t x y
  | .entryStore t x y z => opEntryStore tab T M t x y z
  | .call c => match c.callee with
    | .value f => opCall pf T M n f c.args
    | .builtin b => match c.args.toList with
      | [x] => match b with
        | .len => match c.argTypes.toList with
          | t :: _ => opLen tab T M t x
          | [] => none
        | _ => none
      | [x, y] => match b with
        | .min => opMin T false x y
        | .max => opMin T true x y
        | .append => match c.argTypes.toList with
          | [t, t2] => match Nat.beq t2 t with
            | true => opAppend pf tab T M n t x y
            | false => none
          | _ => none
        | _ => none
      | _ => none
    | .invoke _ _ => none
  | _ => none
theorem opF_ok {pf : PF} (hP : Tab.oks P tab) (hF : PF.oks P pf) (hT : TmOk ρ T S a) (hW : WI w0 L ρ M S w) (hn : ¬ S n) {e : Eff} (h : opF tab pf T M n o.op = some e) (hob : e.obl) :
    Oc P a o w (EPost w0 L ρ M S n e) := by
  unfold opF at h
  split at h
  case h_1 ho => exact opMove_ok hT hW h (.inl ho)
  case h_2 ho => exact opMove_ok hT hW h (.inr ho)
  case h_3 ho => exact opPick_ok hT hW h ho
  case h_4 ho => exact opAlloc_ok hP hW hn h ho
  case h_5 ho => exact opBox_ok hT hW hn h ho
  case h_6 ho => exact opBuild_ok hP hT hW h ho
  case h_7 ho => exact opBuildSlice_ok hP hT hW hn h ho
  case h_8 ho => exact opMake_ok hP hT hW hn h ho
  case h_9 ho => exact opLoad_ok hP hT hW h ho
  case h_10 ho => exact opStore_ok hP hT hW h ho
  case h_11 ho => exact opNil_ok hT hW h ho
  case h_12 ho => exact opBin_ok hP hT hW h hob ho
  case h_13 ho => exact opUn_ok hT hW h ho
  case h_14 ho => exact opConv_ok hP hT hW h ho
  case h_15 ho => exact opMakeFunc_ok hT hW h ho
  case h_16 ho => exact opFieldAddr_ok hP hT hW h ho
  case h_17 ho => exact opField_ok hP hT hW h ho
  case h_18 ho => exact opIndexAddr_ok hP hT hW h hob ho
  case h_19 ho => exact opExtract_ok hT hW h ho
  case h_20 t x lo hi mx ho =>
    cases mx with
    | some _ => cases h
    | none =>
      simp only at h
      split at h
      · rename_i e2 he2
        obtain rfl := Option.some.inj h
        exact opSlice2_ok hP hT hW hn he2 ho
      · exact opSlice_ok hP hT hW hn h hob ho
  case h_21 ho => exact opToArr_ok hP hT hW h hob ho
  case h_22 ho => exact opLookup_ok hP hT hW h ho
  case h_23 ho => exact opMakeMap_ok hW hn h ho
  case h_24 ho => exact opMapPut_ok hP hT hW h (.inl ho)
  case h_25 ho => exact opMapPut_ok hP hT hW h (.inr ho)
  case h_26 ho => exact opMapEntry_ok hP hT hW h ho
  case h_27 ho => exact opEntryStore_ok hP hT hW h hob ho
  case h_29 => cases h
  case h_28 c ho =>
    obtain ⟨callee, args, ts⟩ := c
    simp only at h
    split at h
    · exact opCall_ok hF hT hW hn h ho
    · rename_i b
      split at h
      · rename_i x hx
        have hx : args = #[x] := by apply Array.ext'; simpa using hx
        subst hx
        split at h
        · split at h
          · rename_i t r ht
            exact opLen_ok hP hT hW h ho (by rw [← Array.getElem?_toList, ht]; rfl)
          · cases h
        · cases h
      · rename_i x y hx
        have hx : args = #[x, y] := by apply Array.ext'; simpa using hx
        subst hx
        split at h
        · exact opMin_ok (b := false) hT hW h ho
        · exact opMin_ok (b := true) hT hW h ho
        · split at h
          · rename_i t t2 ht
            have ht : ts = #[t, t2] := by apply Array.ext'; simpa using ht
            subst ht
            split at h
            · rename_i hb
              exact opAppend_ok hP hT hW hn h hob ho (Nat.eq_of_beq_eq_true hb)
            · cases h
          · cases h
        · cases h
      · cases h
    · cases h
end
end Go.Sx
namespace Go.Sx
structure St where
  T : List (Nat × SV)
  M : List (Nat × SObj)
  n : Nat
  D : List Deferred
  todo : List Item
/-- What does not turn in a call: the program, its tables, the function, where its regions whose order is open are cut, the world and the blocks of before that it may write to; the loop (number, real block) where the run is one of a loop's rounds. -/
structure Cx where
  P : Program
  tab : Tab
  pf : PF
  f : FuncId
  fn : Func
  cuts : List (Nat × Nat)
  w0 : World
  L : List (Nat × Nat)
  rd : Option (Nat × Nat) := none
structure Cx.ok (c : Cx) : Prop where
  tab : Tab.oks c.P c.tab
  pf : PF.oks c.P c.pf
  fn : c.P.funcs[c.f]? = some c.fn
  mixed : c.P.follows .mixedOrders = true
  rdL : ∀ p, c.rd = some p → p ∈ c.L
/-- The real number of the block of the loop whose round it is. -/
abbrev Cx.rr (c : Cx) : Option Nat := c.rd.map (·.2)
structure Inv (c : Cx) (ρ : Env) (s : St) (a : Act) (w : World) : Prop where
  sz : a.tmps.size = c.fn.ntmps
  tm : TmOk ρ (look s.T) (· < s.n) a
  df : a.defers = s.D
  wi : WI c.w0 c.L ρ (look s.M) (· < s.n) w
/-- From every real state that the symbolic one speaks of, the function comes to an ending of which R holds. -/
structure Run (c : Cx) (s : St) (R : Ending → World → Prop) : Prop where
  go : ∀ ρ a w, Inv c ρ s a w → TW c.P c.f c.rr a s.todo w R
theorem TmOk.put {ρ ρ' : Env} {T : List (Nat × SV)} {S S' : Nat → Prop} {a : Act} (h : TmOk ρ (look T) S a) (hag : Env.agree S ρ ρ') (hS : ∀ i, S i → S' i) {t : Nat} {v : SV} (ht : t < a.tmps.size) (hv : v.sc S') :
    TmOk ρ' (look ((t, v) :: T)) S' (a.put (some t) (v.conc ρ')) := by
  intro u x hx
  rw [look_cons] at hx
  simp only [Act.put, Array.size_setIfInBounds]
  by_cases e : t = u
  · subst e
    rw [if_pos rfl] at hx
    obtain rfl := Option.some.inj hx
    exact ⟨ht, by simp [ht], hv⟩
  · rw [if_neg e] at hx
    obtain ⟨h1, h2, h3⟩ := h u x hx
    refine ⟨h1, ?_, SV.sc_mono hS x h3⟩
    rw [conc_agree hag x h3, ← h2]
    simp [e]
theorem TmOk.keep {ρ ρ' : Env} {T : List (Nat × SV)} {S S' : Nat → Prop} {a : Act} (h : TmOk ρ (look T) S a) (hag : Env.agree S ρ ρ') (hS : ∀ i, S i → S' i) (v : Value) : TmOk ρ' (look T) S' (a.put none v) := by
  intro u x hx
  obtain ⟨h1, h2, h3⟩ := h u x hx
  exact ⟨h1, by rw [conc_agree hag x h3]; exact h2, SV.sc_mono hS x h3⟩
def putS (T : List (Nat × SV)) (d : Option Tmp) (v : SV) : List (Nat × SV) :=
  match d with
  | some t => (t, v) :: T
  | none => T
/-- The temporary is one of the function's. -/
def okD (N : Nat) (d : Option Tmp) : Bool :=
  match d with
  | some t => Nat.blt t N
  | none => true
theorem Inv.put {c : Cx} {ρ ρ' : Env} {s : St} {a : Act} {w w' : World} (h : Inv c ρ s a w) {d : Option Tmp} (hd : okD c.fn.ntmps d = true) {v : SV} {M' : List (Nat × SObj)} {n' : Nat} (hag : Env.agree (· < s.n) ρ ρ') (hn : s.n ≤ n')
    (hv : v.sc (· < n')) (hW : WI c.w0 c.L ρ' (look M') (· < n') w') (todo : List Item) : Inv c ρ' ⟨putS s.T d v, M', n', s.D, todo⟩ (a.put d (v.conc ρ')) w' := by
  have hS : ∀ i, i < s.n → i < n' := fun i hi => Nat.lt_of_lt_of_le hi hn
  cases d with
  | none => exact ⟨h.sz, h.tm.keep hag hS _, h.df, hW⟩
  | some t =>
    have ht : t < c.fn.ntmps := by simpa [okD, Nat.blt_eq] using hd
    exact ⟨by simp [Act.put, h.sz], h.tm.put hag hS (by rw [h.sz]; exact ht) hv, h.df, hW⟩
def wantS (ops : List Oper) (T : Tm) (o : Oper) : Option Bool :=
  match o.guard with
  | none => some true
  | some (j, want) => match get ops j with
    | some oj => match oj.dst with
      | some t => match T t with
        | some (.v (.bool b)) => match b with
          | true => some want
          | false => some (!want)
        | some (.v (.tuple _)) => some false
        | _ => none
      | none => none
    | none => none
theorem wantS_ok {ops : Array Oper} {ρ : Env} {T : Tm} {S : Nat → Prop} {a : Act} (h : TmOk ρ T S a) {o : Oper} {b : Bool} (hw : wantS ops.toList T o = some b) : Region.wanted o (yielded ops a.tmps) = b := by
  unfold wantS at hw
  unfold Region.wanted
  split at hw
  · rename_i hg; rw [hg]; exact (Option.some.inj hw)
  · rename_i j want hg
    rw [hg]
    split at hw
    case h_2 => cases hw
    rename_i oj hj
    rw [get_eq, Array.getElem?_toList] at hj
    split at hw
    case h_2 => cases hw
    rename_i t ht
    split at hw
    case h_3 => cases hw
    · rename_i b' hb
      obtain ⟨h1, h2, _⟩ := h t _ hb
      have hy : yielded ops a.tmps j = some b' := by
        simp only [Array.getD_eq_getD_getElem?, Array.getElem?_eq_getElem h1, Option.getD_some, SV.conc] at h2
        simp [yielded, hj, ht, Array.getElem?_eq_getElem h1, h2]
      simp only [hy]
      cases b' <;> cases want <;> simp_all
    · rename_i vs hb
      obtain ⟨h1, h2, _⟩ := h t _ hb
      have hy : yielded ops a.tmps j = none := by
        simp only [Array.getD_eq_getD_getElem?, Array.getElem?_eq_getElem h1, Option.getD_some, SV.conc] at h2
        simp [yielded, hj, ht, Array.getElem?_eq_getElem h1, h2]
      simp only [hy]
      obtain rfl := Option.some.inj hw
      rfl
def upto : Nat → Nat → List Nat
  | _, 0 => []
  | i, m + 1 => i :: upto (i + 1) m
theorem upto_eq : ∀ (m i : Nat), upto i m = List.range' i m
  | 0, i => rfl
  | m + 1, i => by simp [upto, upto_eq m (i + 1), List.range'_succ]
theorem upto_range (m : Nat) : upto 0 m = List.range m := by rw [upto_eq, List.range_eq_range']
def lenL {α : Type} : List α → Nat
  | [] => 0
  | _ :: l => lenL l + 1
theorem lenL_eq {α : Type} : ∀ l : List α, lenL l = l.length
  | [] => rfl
  | _ :: l => by simp [lenL, lenL_eq l]
/-- What an effect leaves of a state, whose next operations are 'todo'. -/
def Eff.st (e : Eff) (s : St) (d : Option Tmp) (todo : List Item) : St :=
  match e with
  | .val _ v => ⟨putS s.T d v, s.M, s.n, s.D, todo⟩
  | .new v o => ⟨putS s.T d v, (s.n, o) :: s.M, s.n + 1, s.D, todo⟩
  | .wr i o => ⟨putS s.T d (.v undef), (i, o) :: s.M, s.n, s.D, todo⟩
  | .wrv _ i o v => ⟨putS s.T d v, (i, o) :: s.M, s.n, s.D, todo⟩
  | .call _ _ _ v => ⟨putS s.T d v, s.M, s.n, s.D, todo⟩
  | .mv _ j _ v o => ⟨putS s.T d v, (s.n, o) :: (j, .pin []) :: s.M, s.n + 1, s.D, todo⟩
section
variable {c : Cx} {s : St} {R : Ending → World → Prop}
theorem Run.step {todo' : List Item} (hs : ∀ ρ a w cs, Inv c ρ s a w → step c.P (lone (fat c.f c.rr a s.todo) cs w) = .next (lone (fat c.f c.rr a todo') cs w)) (h : Run c ⟨s.T, s.M, s.n, s.D, todo'⟩ R) : Run c s R :=
  ⟨fun ρ a w hi => TW.next (fun cs => hs ρ a w cs hi) (h.go ρ a w ⟨hi.sz, hi.tm, hi.df, hi.wi⟩)⟩
theorem Run.op (hc : c.ok) {ops : Array Oper} {i : Nat} {r : List Nat} {k : List Item} {o : Oper} {e : Eff} (ht : s.todo = .inRegion ops (i :: r) :: k) (ho : get ops.toList i = some o)
    (hw : wantS ops.toList (look s.T) o = some true) (hd : okD c.fn.ntmps o.dst = true) (he : opF c.tab c.pf (look s.T) (look s.M) s.n o.op = some e) (hob : e.obl) (h : Run c (e.st s o.dst (.inRegion ops r :: k)) R) : Run c s R := by
  refine ⟨fun ρ a w hi => ?_⟩
  rw [ht]
  rw [get_eq, Array.getElem?_toList] at ho
  refine TW.op ho (wantS_ok hi.tm hw) ?_
  refine (opF_ok hc.tab hc.pf hi.tm hi.wi (Nat.lt_irrefl s.n) he hob).mono fun v w' hp => ?_
  obtain ⟨ρ', h1, rfl, h3, h4⟩ := hp
  cases e with
  | val ob v => exact h.go ρ' _ w' (hi.put hd h1 (Nat.le_refl _) h3 h4 _)
  | call g args bs v => exact h.go ρ' _ w' (hi.put hd h1 (Nat.le_refl _) h3 h4 _)
  | wr j ob => exact h.go ρ' _ w' (hi.put hd h1 (Nat.le_refl _) (v := .v undef) trivial (by rw [look_upd]; exact h4) _)
  | wrv p j ob v => exact h.go ρ' _ w' (hi.put hd h1 (Nat.le_refl _) h3 (by rw [look_upd]; exact h4) _)
  | mv p j j2 v ob =>
    have up : ∀ j, j < s.n ∨ j = s.n → j < s.n + 1 := fun j hj => by omega
    exact h.go ρ' _ w' (hi.put hd h1 (Nat.le_succ _) (SV.sc_mono up _ h3) (by rw [look_upd, look_upd]; exact h4.mono up) _)
  | new v ob =>
    have up : ∀ j, j < s.n ∨ j = s.n → j < s.n + 1 := fun j hj => by omega
    exact h.go ρ' _ w' (hi.put hd h1 (Nat.le_succ _) (SV.sc_mono up _ h3) (by rw [look_upd]; exact h4.mono up) _)
theorem Run.pass {ops : Array Oper} {i : Nat} {r : List Nat} {k : List Item} {o : Oper} (ht : s.todo = .inRegion ops (i :: r) :: k) (ho : get ops.toList i = some o)
    (hw : wantS ops.toList (look s.T) o = some false) (hd : okD c.fn.ntmps o.dst = true) (h : Run c ⟨putS s.T o.dst (.v undef), s.M, s.n, s.D, .inRegion ops r :: k⟩ R) : Run c s R := by
  refine ⟨fun ρ a w hi => ?_⟩
  rw [ht]
  rw [get_eq, Array.getElem?_toList] at ho
  exact TW.pass ho (wantS_ok hi.tm hw) (h.go ρ _ w (hi.put hd (Env.agree.refl _ ρ) (Nat.le_refl _) (v := .v undef) trivial hi.wi _))
end
/-- What a result variable reads as. -/
def resM (tmps : Array Value) : ResultVar → Sem Value
  | .tmp t => pure (tmps.getD t undef)
  | .cell t ty => do loadVar ty (← asAddr (tmps.getD t undef))
theorem results_resM (fn : Func) (tmps : Array Value) : results fn tmps = (do let vs ← fn.results.mapM (resM tmps); pure (if h : vs.size = 1 then vs[0] else .tuple vs)) := rfl
def resV (tab : Tab) (T : Tm) (M : Mem) : ResultVar → Option SV
  | .tmp t => T t
  | .cell t ty => match opLoad tab T M ty (.tmp t) with
    | some (.val none v) => some v
    | _ => none
def resVs (tab : Tab) (T : Tm) (M : Mem) : List ResultVar → Option (List SV)
  | [] => some []
  | r :: l => match resV tab T M r with
    | some v => match resVs tab T M l with
      | some vs => some (v :: vs)
      | none => none
    | none => none
def resS (tab : Tab) (T : Tm) (M : Mem) (l : List ResultVar) : Option SV :=
  match resVs tab T M l with
  | some [v] => some v
  | some vs => some (.tup vs)
  | none => none
section
variable {P : Program} {tab : Tab} {w0 w : World} {L : List (Nat × Nat)} {ρ : Env} {T : Tm} {M : Mem} {S : Nat → Prop} {a : Act}
theorem resV_ok (hP : Tab.oks P tab) (hT : TmOk ρ T S a) (hW : WI w0 L ρ M S w) {r : ResultVar} {v : SV} (h : resV tab T M r = some v) :
    (resM a.tmps r).run P w = .ok (v.conc ρ) w ∧ v.sc S := by
  cases r with
  | tmp t => exact ⟨by simp only [resM, Sem.run_pure, (hT t v h).2.1], (hT t v h).2.2⟩
  | cell t ty =>
    simp only [resV] at h
    split at h
    case h_2 => cases h
    rename_i v' hv
    obtain rfl := Option.some.inj h
    obtain ⟨v2, e2, hs, ad, h1, h2⟩ := opLoad_run hP hT hW hv
    obtain rfl : v' = v2 := by injection e2
    have h1' : a.tmps.getD t undef = .pointer (some ad) := h1
    exact ⟨by simp only [resM, h1', asAddr, Sem.run_bind, Sem.run_pure, Result.andThen_ok, h2], hs⟩
theorem resVs_ok (hP : Tab.oks P tab) (hT : TmOk ρ T S a) (hW : WI w0 L ρ M S w) : ∀ {l : List ResultVar} {vs : List SV}, resVs tab T M l = some vs →
    (l.mapM (resM a.tmps)).run P w = .ok (SV.concs ρ vs) w ∧ SV.scs S vs
  | [], vs, h => by simp [resVs] at h; subst h; exact ⟨by simp [SV.concs], trivial⟩
  | r :: l, vs, h => by
    unfold resVs at h
    split at h
    case h_2 => cases h
    rename_i v hv
    split at h
    case h_2 => cases h
    rename_i vs' hvs
    obtain rfl := Option.some.inj h
    obtain ⟨h1, h2⟩ := resV_ok hP hT hW hv
    obtain ⟨h3, h4⟩ := resVs_ok hP hT hW hvs
    refine ⟨?_, h2, h4⟩
    rw [List.mapM_cons]
    simp only [Sem.run_bind, h1, Result.andThen_ok, h3, Sem.run_pure, SV.concs]
theorem resS_ok (hP : Tab.oks P tab) (hT : TmOk ρ T S a) (hW : WI w0 L ρ M S w) {fn : Func} {v : SV} (h : resS tab T M fn.results.toList = some v) : (results fn a.tmps).run P w = .ok (v.conc ρ) w ∧ v.sc S := by
  unfold resS at h
  have key : ∀ vs, resVs tab T M fn.results.toList = some vs → (results fn a.tmps).run P w = .ok (if h : (SV.concs ρ vs).toArray.size = 1 then (SV.concs ρ vs).toArray[0] else .tuple (SV.concs ρ vs).toArray) w := by
    intro vs hvs
    obtain ⟨h1, _⟩ := resVs_ok hP hT hW hvs
    rw [results_resM, Array.mapM_eq_mapM_toList]
    simp only [Sem.run_bind, Sem.run_map, h1, Result.andThen_ok, Sem.run_pure]
  split at h
  · rename_i x hx
    obtain rfl := Option.some.inj h
    have := key _ hx
    exact ⟨by rw [this]; simp [SV.concs], ((resVs_ok hP hT hW hx).2).1⟩
  · rename_i vs hne hvs
    obtain rfl := Option.some.inj h
    have h1 : (SV.concs ρ vs).toArray.size ≠ 1 := by
      intro hc
      have : vs.length = 1 := by simpa [concs_length] using hc
      match vs, this with
      | [x], _ => exact hne x rfl
    exact ⟨by rw [key _ hvs, dif_neg h1]; rfl, (resVs_ok hP hT hW hvs).2⟩
  · cases h
end
/-- What is left to show at a return. -/
structure RetOk (c : Cx) (M : List (Nat × SObj)) (n : Nat) (v : SV) (R : Ending → World → Prop) : Prop where
  h : ∀ ρ w, WI c.w0 c.L ρ (look M) (· < n) w → v.sc (· < n) → R (.returned (v.conc ρ)) w
theorem Run.ret {c : Cx} (hc : c.ok) (hrd : c.rd = none) {T : List (Nat × SV)} {M : List (Nat × SObj)} {n : Nat} {todo : List Item} {R : Ending → World → Prop} {v : SV} (ht : todo = [] ∨ ∃ k, todo = .code .ret :: k)
    (hv : resS c.tab (look T) (look M) c.fn.results.toList = some v) (h : RetOk c M n v R) : Run c ⟨T, M, n, [], todo⟩ R := by
  refine ⟨fun ρ a w hi => ?_⟩
  have hrr : c.rr = none := by simp [Cx.rr, hrd]
  rw [hrr]
  obtain ⟨h1, h2⟩ := resS_ok hc.tab hi.tm hi.wi hv
  rcases ht with rfl | ⟨k, rfl⟩
  · exact TW.fin hc.fn hi.df h1 (h.h ρ w hi.wi h2)
  · exact TW.ret hc.fn hi.df h1 (h.h ρ w hi.wi h2)
theorem WI.putO {w0 w : World} {L : List (Nat × Nat)} {ρ : Env} {M : Mem} {S : Nat → Prop} (hW : WI w0 L ρ M S w) {i : Nat} {o o' : Obj} (hi : M i = some (.obj o)) (ho : ∀ c t f, o' ≠ .cells c t f) : WI w0 L ρ (upd M i (.obj o')) S (World.putO w (ρ.s i) o') := by
  obtain ⟨_, _, _, h3⟩ := hW.mem i _ hi
  exact hW.write (o' := .obj o') hi trivial trivial (putO_same h3) (fun hh => ⟨ho, hh⟩) (fun k hk => putO_other hk) putO_size rfl rfl rfl
theorem run_getLoop {P : Program} {w : World} {l : Nat} {r : Loop} (h : w.heap[l]? = some (.loop r)) : (Instr.getLoop l).run P w = .ok r w := by
  simp [Instr.getLoop, getObj, Sem.run, h, Sem.run_bind]
theorem run_setObj {P : Program} {w : World} {l : Nat} {o o' : Obj} (h : w.heap[l]? = some o) (ho : ∀ c t f, o ≠ .cells c t f) : (setObj l o').run P w = .ok () (World.putO w l o') := by
  cases o <;> first
    | exact absurd rfl (ho _ _ _)
    | simp [setObj, Sem.run, h, World.putO]
theorem run_beginRound {P : Program} {w : World} {l : Nat} {r : Loop} (h : w.heap[l]? = some (.loop r)) (hr : r.state = .ready) : (Instr.beginRound l).run P w = .ok () (World.putO w l (.loop { r with state := .busy })) := by
  simp [Instr.beginRound, run_getLoop h, run_setObj h (fun _ _ _ => by simp), hr]
theorem run_endRound {P : Program} {w : World} {l : Nat} {r : Loop} (h : w.heap[l]? = some (.loop r)) : (Instr.endRound l none).run P w = .ok (.bool true) (World.putO w l (.loop { r with state := .ready, pending := none })) := by
  simp [Instr.endRound, run_getLoop h, run_setObj h (fun _ _ _ => by simp)]
theorem TW.beginRound {P : Program} {f : FuncId} {l : Nat} {a : Act} {k : List Item} {w : World} {R : Ending → World → Prop} {r : Loop} (h : w.heap[l]? = some (.loop r)) (hr : r.state = .ready)
    (hk : TW P f (some l) a k (World.putO w l (.loop { r with state := .busy })) R) : TW P f (some l) a (.beginRound :: k) w R := by
  intro cs hcs
  obtain ⟨m, h1, h2⟩ := hk cs hcs
  refine ⟨m, h1, .head (step_lone_go ?_) h2⟩
  have hrun : (do (some l).elim (stuck "beginRound: no round") Instr.beginRound; pure .skip : Sem Next).run P w = .ok .skip (World.putO w l (.loop { r with state := .busy })) := by
    simp [run_beginRound h hr]
  simp only [stepG, stepG.exec, fat, stepG.apply, Sem.runT_eq, hrun, if_true]
  simp [Frame.finish]
theorem TW.endRound {P : Program} {f : FuncId} {l : Nat} {a : Act} {w : World} {R : Ending → World → Prop} {r : Loop} (h : w.heap[l]? = some (.loop r)) (hr : R (.returned (.bool true)) (World.putO w l (.loop { r with state := .ready, pending := none }))) :
    TW P f (some l) a [] w R := by
  intro cs hcs
  cases cs with
  | nil => exact absurd rfl (hcs rfl)
  | cons c cs =>
    refine ⟨_, ⟨true, c, cs, _, rfl, hr, rfl⟩, .one (step_lone_go ?_)⟩
    simp only [stepG, stepG.exec, fat, Sem.runT_eq, run_endRound (P := P) h]
    simp [doReturn]
def forceX (x : Value) (K : SV → Prop) : Prop :=
  match x with
  | .bool b => K (.v (.bool b))
  | .int k n => K (.v (.int k n))
  | x => K (.v x)
theorem forceX_eq (x : Value) (K : SV → Prop) : forceX x K = K (.v x) := by unfold forceX; split <;> rfl
def force1 (v : SV) (K : SV → Prop) : Prop :=
  match v with
  | .v x => forceX x K
  | .ptr i off => K (.ptr i off)
  | .slc i off len cap => K (.slc i off len cap)
  | .opq i => K (.opq i)
  | .mp i => K (.mp i)
  | .fn f caps => K (.fn f caps)
  | .agg cs => K (.agg cs)
  | .tup vs => K (.tup vs)
theorem force1_eq (v : SV) (K : SV → Prop) : force1 v K = K v := by cases v <;> simp only [force1, forceX_eq]
def forceL : List SV → (List SV → Prop) → Prop
  | [], K => K []
  | a :: l, K => force1 a fun a => forceL l fun l => K (a :: l)
theorem forceL_eq : ∀ (l : List SV) (K : List SV → Prop), forceL l K = K l
  | [], _ => rfl
  | a :: l, K => by simp only [forceL, force1_eq, forceL_eq l]
def forceV (v : SV) (K : SV → Prop) : Prop :=
  match v with
  | .v x => forceX x K
  | .ptr i off => K (.ptr i off)
  | .slc i off len cap => K (.slc i off len cap)
  | .opq i => K (.opq i)
  | .mp i => K (.mp i)
  | .fn f caps => forceL caps fun caps => K (.fn f caps)
  | .agg cs => forceL cs fun cs => K (.agg cs)
  | .tup vs => forceL vs fun vs => K (.tup vs)
theorem forceV_eq (v : SV) (K : SV → Prop) : forceV v K = K v := by cases v <;> simp only [forceV, forceL_eq, forceX_eq]
def forceO (o : SObj) (K : SObj → Prop) : Prop :=
  match o with
  | .cells cs t => forceL cs fun cs => K (.cells cs t)
  | .row e n xs t => K (.row e n xs t)
  | .obj o => K (.obj o)
  | .win vs => K (.win vs)
  | .rwin e n vs => K (.rwin e n vs)
  | .mid pre post cs t => forceL cs fun cs => K (.mid pre post cs t)
  | .kmap pk nn l => K (.kmap pk nn l)
  | .kwin pk l => K (.kwin pk l)
  | .pin l => K (.pin l)
  | .swin e n f => K (.swin e n f)
theorem forceO_eq (o : SObj) (K : SObj → Prop) : forceO o K = K o := by cases o <;> simp only [forceO, forceL_eq]
def putK (T : List (Nat × SV)) (d : Option Tmp) (v : SV) (K : List (Nat × SV) → Prop) : Prop :=
  match d with
  | some t => forceV v fun v => K ((t, v) :: T)
  | none => K T
theorem putK_eq (T : List (Nat × SV)) (d : Option Tmp) (v : SV) (K : List (Nat × SV) → Prop) : putK T d v K = K (putS T d v) := by cases d <;> simp only [putK, putS, forceV_eq]
def wantK (ops : List Oper) (T : Tm) (g : Option (Nat × Bool)) (stop : Prop) (K : Bool → Prop) : Prop :=
  match g with
  | none => K true
  | some (j, want) => match get ops j with
    | some oj => match oj.dst with
      | some t => match T t with
        | some (.v (.bool b)) => match b with
          | true => K want
          | false => K (!want)
        | some (.v (.tuple _)) => K false
        | _ => stop
      | none => stop
    | none => stop
theorem wantK_elim {ops : List Oper} {T : Tm} {o : Oper} {stop : Prop} {K : Bool → Prop} (h : wantK ops T o.guard stop K) : stop ∨ ∃ b, wantS ops T o = some b ∧ K b := by
  unfold wantK at h
  unfold wantS
  split at h
  · exact .inr ⟨_, rfl, h⟩
  · rename_i j want hg
    split at h
    case h_2 => exact .inl h
    rename_i oj hj
    split at h
    case h_2 => exact .inl h
    rename_i t ht
    split at h
    case h_3 => exact .inl h
    · rename_i b hb
      right
      cases b
      · exact ⟨_, rfl, h⟩
      · exact ⟨_, rfl, h⟩
    · rename_i vs hb
      right
      exact ⟨_, rfl, h⟩
def numb : Nat → List SV → List (Nat × SV)
  | _, [] => []
  | i, v :: l => (i, v) :: numb (i + 1) l
theorem numb_look : ∀ (l : List SV) (i t : Nat) (v : SV), look (numb i l) t = some v → i ≤ t ∧ l[t - i]? = some v
  | [], i, t, v, h => by simp [numb, look] at h
  | x :: l, i, t, v, h => by
    simp only [numb, look_cons] at h
    split at h
    · rename_i e; subst e; exact ⟨Nat.le_refl _, by simpa using h⟩
    · obtain ⟨h1, h2⟩ := numb_look l (i + 1) t v h
      exact ⟨by omega, by rw [show t - i = (t - (i + 1)) + 1 by omega]; simpa using h2⟩
/-- A call: its body's run, from its arguments. -/
theorem Run.calls {P : Program} {tab : Tab} {pf : PF} {cuts : List (Nat × Nat)} {f : FuncId} {fn : Func} {cd : Code} {w : World} {L : List (Nat × Nat)} {R : Ending → World → Prop} (hf : P.funcs[f]? = some fn) (hb : fn.body = some cd) (ρ : Env) (args : List SV) (M : List (Nat × SObj)) (n : Nat)
    (hs : SV.scs (· < n) args) (hN : Nat.ble (lenL args) fn.ntmps = true) (hW : WI w L ρ (look M) (· < n) w)
    (h : Run ⟨P, tab, pf, f, fn, cuts, w, L, none⟩ ⟨numb 0 args, M, n, [], [.code cd]⟩ R) : Calls P f (SV.concs ρ args).toArray w R := by
  have hN : args.length ≤ fn.ntmps := by rw [← lenL_eq]; exact Nat.le_of_ble_eq_true hN
  refine TW.calls hf hb (h.go ρ _ w ⟨?_, ?_, rfl, hW⟩)
  · simp [concs_length]; omega
  · intro t v ht
    obtain ⟨_, h2⟩ := numb_look args 0 t v ht
    simp only [Nat.sub_zero] at h2
    have hlt : t < args.length := by
      rcases Nat.lt_or_ge t args.length with h | h
      · exact h
      · rw [List.getElem?_eq_none h] at h2; cases h2
    refine ⟨by simp [concs_length]; omega, ?_, (scs_iff _ _).1 hs v (List.mem_of_getElem? h2)⟩
    have : ((SV.concs ρ args).toArray ++ Array.replicate (fn.ntmps - (SV.concs ρ args).toArray.size) undef)[t]? = some (v.conc ρ) := by
      rw [Array.getElem?_append_left (by simp [concs_length]; exact hlt)]
      simp [concs_map, h2]
    rw [Array.getD_eq_getD_getElem?, this]; rfl
def env0 : Env := ⟨fun _ => 0, fun _ => 0, fun _ => (none, 0, 0)⟩
theorem WI.start (w : World) (ρ : Env) : WI w [] ρ (look []) (· < 0) w where
  mem i o h := by simp [look] at h
  dist i j o o' h := by simp [look] at h
  new i o h := by simp [look] at h
  lid p h := by simp at h
  keep k _ _ := rfl
  size := Nat.le_refl _
  os := rfl
  tape := rfl
  output := rfl
theorem WI.toExt {w0 w : World} {ρ : Env} {M : Mem} {S : Nat → Prop} (h : WI w0 [] ρ M S w) : Ext w0 w :=
  ⟨fun k hk => h.keep k hk (by simp), h.size, h.os, h.tape, h.output⟩
end Go.Sx
