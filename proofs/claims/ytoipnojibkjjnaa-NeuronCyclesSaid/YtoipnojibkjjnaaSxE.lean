/-
  A small symbolic executor over the model (part E): arithmetic, indices, builtins, calls, composite values: the effect of single operations, each with the law that it is the model's own.
  No condition: these are definitions and laws that hold of every program.
-/
import Derived.Test.YtoipnojibkjjnaaSxD
namespace Go.Sx
section
variable {P : Program} {tab : Tab} {w0 w : World} {L : List (Nat × Nat)} {ρ : Env} {T : Tm} {M : Mem} {S : Nat → Prop} {n : Nat} {a : Act} {o : Oper}

/-! ### Integers -/
def bitI (op : BinOp) (k : IntKind) (x y : Int) : Int :=
  match op with
  | .and => k.wrap ((BitVec.ofInt k.bits x &&& BitVec.ofInt k.bits y).toNat : Int)
  | .or => k.wrap ((BitVec.ofInt k.bits x ||| BitVec.ofInt k.bits y).toNat : Int)
  | _ => 0
def binI (op : BinOp) (k : IntKind) (x y : Int) : Option (Option Prop × Value) :=
  match op with
  | .add => some (none, .int k (k.wrap (x + y)))
  | .sub => some (none, .int k (k.wrap (x - y)))
  | .mul => some (none, .int k (k.wrap (x * y)))
  | .quo => some (some (y ≠ 0), .int k (k.wrap (x.tdiv y)))
  | .rem => some (some (y ≠ 0), .int k (x.tmod y))
  | .and => some (none, .int k (bitI .and k x y))
  | .or => some (none, .int k (bitI .or k x y))
  | .eql => some (none, .bool (x == y))
  | .neq => some (none, .bool (x != y))
  | .lss => some (none, .bool (decide (x < y)))
  | .leq => some (none, .bool (decide (x ≤ y)))
  | .gtr => some (none, .bool (decide (y < x)))
  | .geq => some (none, .bool (decide (y ≤ x)))
  | _ => none
def shI (op : BinOp) (k : IntKind) (x y : Int) : Option Value :=
  match op with
  | .shl => some (.int k (k.wrap (x * 2 ^ (min y.toNat k.bits))))
  | .shr => some (.int k (x.fdiv (2 ^ (min y.toNat k.bits))))
  | _ => none
def eqS : List SV → List SV → Option Bool
  | [], [] => some true
  | .v (.int k x) :: l, .v (.int k' y) :: l' => match decide (k = k') with
    | true => match eqS l l' with
      | some r => some (x == y && r)
      | none => none
    | false => none
  | _, _ => none
def eqNil : SV → SV → Option Bool
  | .v (.pointer none), .v (.pointer none) => some true
  | .ptr _ _, .v (.pointer none) => some false
  | .v (.pointer none), .ptr _ _ => some false
  | .v (.pointer (some _)), .v (.pointer none) => some false
  | _, _ => none
def eqNilF : SV → SV → Option Bool
  | .v .nilFunc, .v .nilFunc => some true
  | .fn _ _, .v .nilFunc => some false
  | .v (.func _ _ _), .v .nilFunc => some false
  | _, _ => none
def eqAny (ti : TI) (x y : SV) : Option Bool :=
  match ti.sh with
  | .bool => match x, y with
    | .v (.bool p), .v (.bool q) => some (p == q)
    | _, _ => none
  | .str _ => match ti.eqn, x, y with
    | some m, .agg xs, .agg ys => match Nat.beq xs.length m, Nat.beq ys.length m with
      | true, true => eqS xs ys
      | _, _ => none
    | _, _, _ => none
  | .ptr => eqNil x y
  | .fn => eqNilF x y
  | _ => none
def opBin (tab : Tab) (T : Tm) (op : BinOp) (t : TypeId) (x y : Operand) : Option Eff :=
  match ev T x, ev T y with
  | some (.v (.int k p)), some (.v (.int k' q)) => match op with
    | .shl => match shI .shl k p q with
      | some r => some (.val (some (0 ≤ q)) (.v r))
      | none => none
    | .shr => match shI .shr k p q with
      | some r => some (.val (some (0 ≤ q)) (.v r))
      | none => none
    | _ => match decide (k = k') with
      | true => match binI op k p q with
        | some (ob, r) => some (.val ob (.v r))
        | none => none
      | false => none
  | some u, some v => match look tab t with
    | some ti => match op with
      | .eql => match eqAny ti u v with
        | some b => some (.val none (.v (.bool b)))
        | none => none
      | .neq => match eqAny ti u v with
        | some b => some (.val none (.v (.bool !b)))
        | none => none
      | _ => none
    | none => none
  | _, _ => none

theorem shI_run {op : BinOp} (hop : op = .shl ∨ op = .shr) {k k' : IntKind} {p q : Int} {r : Value} (h : shI op k p q = some r) (hq : 0 ≤ q) : (Op.shift op k p k' q).run P w = .ok r w := by
  have hq' : ¬ q < 0 := by omega
  rcases hop with rfl | rfl <;> (simp only [shI, Option.some.injEq] at h; subst h; simp [Op.shift, hq'])
theorem binI_run {op : BinOp} {k : IntKind} {p q : Int} {ob : Option Prop} {r : Value} (h : binI op k p q = some (ob, r)) (hob : ∀ c, ob = some c → c) (t : TypeId) :
    (Go.binOp op t (.int k p) (.int k q)).run P w = .ok r w := by
  cases op <;> simp only [binI, Option.some.injEq, Prod.mk.injEq] at h <;> try (cases h; done)
  all_goals obtain ⟨rfl, rfl⟩ := h
  case quo => have := hob _ rfl; simp [Go.binOp, Op.intDiv, this]
  case rem => have := hob _ rfl; simp [Go.binOp, Op.intDiv, this]
  all_goals first
    | (simp [Go.binOp, Op.intArith]; done)
    | (simp [Go.binOp, Op.intCmp]; done)
    | (simp [Go.binOp, Op.intBits, bitI]; done)

theorem eqFields_run (P : Program) (w : World) (d : Nat) (ρ : Env) (X Y : List SV) : ∀ (fs : List Field) (i : Nat) (xs ys : List SV) (r : Bool), eqS xs ys = some r → xs.length = fs.length → X.drop i = xs → Y.drop i = ys →
    ((fs.zipIdx i).all fun (f, i) => f.name != "_" && f.offset == i && (match P.underlying f.type with | some (.int _) => true | _ => false)) = true →
    (Op.eqFields (d + 1) (SV.concs ρ X).toArray (SV.concs ρ Y).toArray fs).run P w = .ok r w
  | [], i, xs, ys, r, h, hl, _, _, _ => by
    cases xs with
    | cons _ _ => simp at hl
    | nil =>
      cases ys with
      | nil => simp [eqS] at h; subst h; simp [Op.eqFields]
      | cons _ _ => simp [eqS] at h
  | f :: fs, i, xs, ys, r, h, hl, hX, hY, hall => by
    cases xs with
    | nil => simp at hl
    | cons x xs =>
    cases ys with
    | nil => simp [eqS] at h
    | cons y ys =>
    simp only [List.zipIdx_cons, List.all_cons, Bool.and_eq_true, bne_iff_ne, ne_eq, beq_iff_eq] at hall
    obtain ⟨⟨⟨hn, hoff⟩, hty⟩, hrest⟩ := hall
    obtain ⟨k, p, k', q, r', rfl, rfl, h', rfl⟩ : ∃ k p k' q r', x = .v (.int k p) ∧ y = .v (.int k' q) ∧ (k = k' ∧ eqS xs ys = some r') ∧ r = (p == q && r') := by
      unfold eqS at h
      split at h
      · rename_i e1 e2; simp at e1
      · rename_i k p l k' q l' e1 e2
        injection e1 with e1 e1'; injection e2 with e2 e2'
        subst e1 e1' e2 e2'
        split at h
        · rename_i hk
          cases hr : eqS xs ys with
          | none => simp [hr] at h
          | some r' => simp [hr] at h; exact ⟨k, p, k', q, r', rfl, rfl, ⟨of_decide_eq_true hk, rfl⟩, h.symm⟩
        · cases h
      · cases h
    obtain ⟨rfl, h'⟩ := h'
    have gx : X[i]? = some (.v (.int k p)) := by rw [← Nat.add_zero i, ← List.getElem?_drop, hX]; rfl
    have gy : Y[i]? = some (.v (.int k q)) := by rw [← Nat.add_zero i, ← List.getElem?_drop, hY]; rfl
    cases hu : P.underlying f.type with
    | none => simp [hu] at hty
    | some dd =>
    cases dd with
    | int kk =>
      have hag : (Go.isAgg f.type).run P w = .ok false w := by simp [Go.isAgg, run_und hu]
      have px : (part f.type (SV.concs ρ X).toArray i).run P w = .ok (.int k p) w := by
        simp [part, hag, concs_map, gx, SV.conc]
      have py : (part f.type (SV.concs ρ Y).toArray i).run P w = .ok (.int k q) w := by
        simp [part, hag, concs_map, gy, SV.conc]
      subst hoff
      have heq := run_equalIn_int (P := P) w d f.type k kk p q hu
      have ih := eqFields_run P w d ρ X Y fs (f.offset + 1) xs ys r' h' (by simpa using hl) (by rw [← List.drop_drop, hX]; rfl) (by rw [← List.drop_drop, hY]; rfl) hrest
      simp only [Op.eqFields, ne_eq, hn, not_false_eq_true, if_true, Sem.run_bind, px, py, Result.andThen_ok, heq, Sem.run_ite, Sem.run_pure]
      by_cases hpq : p = q
      · subst hpq; simpa using ih
      · simp [hpq]
    | _ => simp [hu] at hty

theorem sh_desc {d : TypeDesc} {P : Program} : (shOf P d = .bool → d = .bool) ∧ (shOf P d = .ptr → ∃ e, d = .pointer e) ∧ (shOf P d = .fn → ∃ p r v, d = .func p r v) ∧
    (∀ k, shOf P d = .int k → d = .int k) ∧ (∀ e m b, shOf P d = .slc e m b → ∃ i, d = .slice e ∧ P.info? e = some i ∧ i.size = m ∧ i.bytes = b) ∧ (∀ l m g, shOf P d = .arr l m g → ∃ e, d = .array l e ∧ (fieldSh P e) = (m, g)) ∧ (shOf P d = .string → d = .string) := by
  cases d <;> simp [shOf]
  case slice e =>
    cases hi : P.info? e with
    | none => simp
    | some i =>
      simp
      exact ⟨i, hi, rfl, rfl⟩

theorem eqNil_run {t e : TypeId} (hd : P.underlying t = some (.pointer e)) {x y : SV} {b : Bool} (h : eqNil x y = some b) (d : Nat) : (Op.equalIn (d + 1) t (x.conc ρ) (y.conc ρ)).run P w = .ok b w := by
  unfold eqNil at h
  split at h <;> first
    | (obtain rfl := Option.some.inj h; simp [SV.conc, Op.equalIn, run_und hd]; done)
    | cases h
theorem eqNilF_run {t : TypeId} {p r : Array TypeId} {v : Bool} (hd : P.underlying t = some (.func p r v)) {x y : SV} {b : Bool} (h : eqNilF x y = some b) (d : Nat) : (Op.equalIn (d + 1) t (x.conc ρ) (y.conc ρ)).run P w = .ok b w := by
  unfold eqNilF at h
  split at h <;> first
    | (obtain rfl := Option.some.inj h; simp [SV.conc, Op.equalIn, run_und hd]; done)
    | cases h
theorem eq_of_equalIn {t : TypeId} {u v : Value} {b : Bool} (h : ∀ d, (Op.equalIn (d + 1) t u v).run P w = .ok b w) (X Y : Operand)
    (hg : ∀ op, (eqGuard op t X Y u v).run P w = .ok () w) (h1 : Go.binOp .eql t u v = (Op.equal t u v >>= fun r => pure (.bool r))) (h2 : Go.binOp .neq t u v = (Op.equal t u v >>= fun r => pure (.bool !r))) :
    (eqGuard .eql t X Y u v >>= fun _ => Go.binOp .eql t u v).run P w = .ok (.bool b) w ∧ (eqGuard .neq t X Y u v >>= fun _ => Go.binOp .neq t u v).run P w = .ok (.bool !b) w := by
  have he : (Op.equal t u v).run P w = .ok b w := h 9999
  constructor
  · rw [Sem.run_bind, hg, Result.andThen_ok, h1, Sem.run_bind, he]; rfl
  · rw [Sem.run_bind, hg, Result.andThen_ok, h2, Sem.run_bind, he]; rfl

theorem eqAny_run {t : TypeId} {ti : TI} (hti : TI.ok P t ti) {x y : SV} {b : Bool} (h : eqAny ti x y = some b) (X Y : Operand) :
    (eqGuard .eql t X Y (x.conc ρ) (y.conc ρ) >>= fun _ => Go.binOp .eql t (x.conc ρ) (y.conc ρ)).run P w = .ok (.bool b) w ∧
    (eqGuard .neq t X Y (x.conc ρ) (y.conc ρ) >>= fun _ => Go.binOp .neq t (x.conc ρ) (y.conc ρ)).run P w = .ok (.bool !b) w := by
  obtain ⟨d, hd, hsh⟩ := hti.desc
  unfold eqAny at h
  split at h
  · -- booleans
    rename_i hb
    obtain rfl := sh_desc.1 (hsh.trans hb)
    split at h
    · rename_i p q
      obtain rfl := Option.some.inj h
      constructor <;> simp [eqGuard, SV.conc, Go.binOp, Op.equal, Op.maxDepth, run_equalIn_bool' w _ t p q hd]
    · cases h
  · -- structs of integers
    rename_i fs hfs
    split at h
    case h_2 => cases h
    rename_i m xs ys hm
    split at h
    case h_2 => cases h
    rename_i hx hy
    have hx := Nat.eq_of_beq_eq_true hx
    have hq := hti.eq
    rw [hm] at hq
    simp only [Option.all_some, eqInts, Bool.and_eq_true, Bool.not_eq_true'] at hq
    obtain ⟨⟨q1, q2⟩, q3⟩ := hq
    cases d <;> try (simp [hd] at q3; done)
    rename_i fields
    simp only [hd, Bool.and_eq_true, beq_iff_eq] at q3
    have hf : P.fieldsOf t = fields := by simp [Program.fieldsOf, hd]
    have hrun := eqFields_run P w 9998 ρ xs ys fields.toList 0 xs ys b h (by rw [hx]; exact q3.1.symm) rfl rfl q3.2
    have he : (Op.equalIn 10000 t (.agg (SV.concs ρ xs).toArray) (.agg (SV.concs ρ ys).toArray)).run P w = .ok b w := by
      rw [run_equalIn_struct w 9999 t _ _ (by rw [hf]; exact hd) q1, hf]; exact hrun
    constructor
    · simp only [SV.conc, Sem.run_bind, run_eqGuard_agg w .eql t X Y _ _ q2, Result.andThen_ok, run_eql_struct, he]
    · simp only [SV.conc, Sem.run_bind, run_eqGuard_agg w .neq t X Y _ _ q2, Result.andThen_ok, run_neq_struct, he]
  · rename_i hb
    obtain ⟨e, rfl⟩ := sh_desc.2.1 (hsh.trans hb)
    have hrun := fun d => eqNil_run (ρ := ρ) (w := w) hd h d
    unfold eqNil at h
    split at h <;> first
      | exact eq_of_equalIn hrun X Y (fun op => by cases op <;> rfl) rfl rfl
      | cases h
  · rename_i hb
    obtain ⟨p, r, v, rfl⟩ := sh_desc.2.2.1 (hsh.trans hb)
    have hrun := fun d => eqNilF_run (ρ := ρ) (w := w) hd h d
    unfold eqNilF at h
    split at h <;> first
      | exact eq_of_equalIn hrun X Y (fun op => by cases op <;> rfl) rfl rfl
      | cases h
  · cases h

theorem opBin_ok (hP : Tab.oks P tab) (hT : TmOk ρ T S a) (hW : WI w0 L ρ M S w) {op : BinOp} {t t2 : TypeId} {x y : Operand} {e : Eff} (h : opBin tab T op t x y = some e) (hob : e.obl) (ho : o.op = .binOp op t x y t2) :
    Oc P a o w (EPost w0 L ρ M S n e) := by
  unfold opBin at h
  split at h
  · rename_i k p k' q hx hy
    obtain ⟨h1, _⟩ := ev_ok hT hx
    obtain ⟨h2, _⟩ := ev_ok hT hy
    simp only [SV.conc] at h1 h2
    have hg : ∀ op', (eqGuard op' t x y (.int k p) (.int k' q)).run P w = .ok () w := by intro op'; cases op' <;> simp [eqGuard]
    split at h
    · split at h
      · rename_i r hr
        obtain rfl := Option.some.inj h
        exact Oc.value (w' := w) (v := r) (by simp [execOp, ho, h1, h2, hg, Go.binOp, shI_run (.inl rfl) hr hob]) (EPost.same hW (v := .v r) trivial)
      · cases h
    · split at h
      · rename_i r hr
        obtain rfl := Option.some.inj h
        exact Oc.value (w' := w) (v := r) (by simp [execOp, ho, h1, h2, hg, Go.binOp, shI_run (.inr rfl) hr hob]) (EPost.same hW (v := .v r) trivial)
      · cases h
    · split at h
      · rename_i hk
        obtain rfl := of_decide_eq_true hk
        split at h
        · rename_i ob r hr
          obtain rfl := Option.some.inj h
          exact Oc.value (w' := w) (v := r) (by simp [execOp, ho, h1, h2, hg, binI_run hr (fun c hc => by subst hc; exact hob)]) (EPost.same hW (v := .v r) trivial)
        · cases h
      · cases h
  · rename_i u v hnn hx hy
    obtain ⟨h1, _⟩ := ev_ok hT hx
    obtain ⟨h2, _⟩ := ev_ok hT hy
    split at h
    case h_2 => cases h
    rename_i ti hti
    have hti := Tab.ok_look hP hti
    split at h
    · split at h
      · rename_i b hb
        obtain rfl := Option.some.inj h
        have := (eqAny_run (ρ := ρ) (w := w) hti hb x y).1
        exact Oc.value (w' := w) (v := .bool b) (by simp only [execOp, ho, h1, h2, Sem.run_bind, Sem.run_pure] at this ⊢; simp only [this, Result.andThen_ok]) (EPost.same hW (v := .v (.bool b)) trivial)
      · cases h
    · split at h
      · rename_i b hb
        obtain rfl := Option.some.inj h
        have := (eqAny_run (ρ := ρ) (w := w) hti hb x y).2
        exact Oc.value (w' := w) (v := .bool !b) (by simp only [execOp, ho, h1, h2, Sem.run_bind, Sem.run_pure] at this ⊢; simp only [this, Result.andThen_ok]) (EPost.same hW (v := .v (.bool !b)) trivial)
      · cases h
    · cases h
  · cases h

def opUn (T : Tm) (op : UnOp) (x : Operand) : Option Eff :=
  match op with
  | .not => match ev T x with
    | some (.v (.bool b)) => some (.val none (.v (.bool !b)))
    | _ => none
  | .neg => match ev T x with
    | some (.v (.int k p)) => some (.val none (.v (.int k (k.wrap (-p)))))
    | _ => none
  | _ => none
theorem opUn_ok (hT : TmOk ρ T S a) (hW : WI w0 L ρ M S w) {op : UnOp} {t : TypeId} {x : Operand} {e : Eff} (h : opUn T op x = some e) (ho : o.op = .unOp op t x) : Oc P a o w (EPost w0 L ρ M S n e) := by
  unfold opUn at h
  split at h
  · split at h
    · rename_i b hx
      obtain rfl := Option.some.inj h
      obtain ⟨h1, _⟩ := ev_ok hT hx
      simp only [SV.conc] at h1
      exact Oc.value (w' := w) (v := .bool !b) (by simp [execOp, ho, Op.unary, h1]) (EPost.same hW (v := .v (.bool !b)) trivial)
    · cases h
  · split at h
    · rename_i k p hx
      obtain rfl := Option.some.inj h
      obtain ⟨h1, _⟩ := ev_ok hT hx
      simp only [SV.conc] at h1
      exact Oc.value (w' := w) (v := .int k (k.wrap (-p))) (by simp [execOp, ho, Op.unary, h1, Op.intArith]) (EPost.same hW (v := .v (.int k (k.wrap (-p)))) trivial)
    · cases h
  · cases h

def opConv (tab : Tab) (T : Tm) (src dst : TypeId) (x : Operand) : Option Eff :=
  match look tab dst with
  | some ti => match ti.sh with
    | .int k => match look tab src with
      | some _ => match ev T x with
        | some (.v (.int _ p)) => some (.val none (.v (.int k (k.wrap p))))
        | _ => none
      | none => none
    | _ => none
  | none => none
theorem opConv_ok (hP : Tab.oks P tab) (hT : TmOk ρ T S a) (hW : WI w0 L ρ M S w) {src dst : TypeId} {x : Operand} {e : Eff} (h : opConv tab T src dst x = some e) (ho : o.op = .convert src dst x) : Oc P a o w (EPost w0 L ρ M S n e) := by
  unfold opConv at h
  split at h
  case h_2 => cases h
  rename_i ti hti
  have hti := Tab.ok_look hP hti
  split at h
  case h_2 => cases h
  rename_i k hk
  split at h
  case h_2 => cases h
  rename_i ts hts
  have hts := Tab.ok_look hP hts
  split at h
  case h_2 => cases h
  rename_i k' p hx
  obtain rfl := Option.some.inj h
  obtain ⟨h1, _⟩ := ev_ok hT hx
  simp only [SV.conc] at h1
  obtain ⟨d, hd, hsh⟩ := hti.desc
  obtain ⟨d', hd', _⟩ := hts.desc
  obtain rfl := sh_desc.2.2.2.1 k (hsh.trans hk)
  refine Oc.value (w' := w) (v := .int k (k.wrap p)) ?_ (EPost.same hW (v := .v (.int k (k.wrap p))) trivial)
  simp only [execOp, ho, convert, h1, Sem.run_bind, run_und hd, run_und hd', Result.andThen_ok]
  cases d' <;> simp [Conv.intToInt]

/-! ### Indices -/
/-- The cell at which element 'j' of 'sz' cells begins. -/
def idx (j : Int) (sz : Nat) : Nat :=
  match sz with
  | 1 => j.toNat
  | _ => j.toNat * sz
theorem idx_eq (j : Int) (sz : Nat) : idx j sz = j.toNat * sz := by
  unfold idx; split <;> simp
def opIndexAddr (tab : Tab) (T : Tm) (M : Mem) (t : TypeId) (x i : Operand) : Option Eff :=
  match look tab t with
  | some ti => match ev T i with
    | some (.v (.int _ j)) => match ti.sh with
      | .slc _ sz _ => match ev T x with
        | some (.slc b off len _) => some (.val (some (0 ≤ j ∧ j < (len : Int))) (.ptr b (off + idx j sz)))
        | some (.opq b) => match M b with
          | some (.row e m _ _) => match Nat.beq e sz with
            | true => some (.val (some (0 ≤ j ∧ j < (m : Int))) (.ptr b (idx j sz)))
            | false => none
          | _ => none
        | _ => none
      | .arr len sz _ => match sz with
        | 0 => none
        | sz + 1 => match ev T x with
          | some (.ptr b off) => some (.val (some (0 ≤ j ∧ j < (len : Int))) (.ptr b (off + idx j (sz + 1))))
          | _ => none
      | _ => none
    | _ => none
  | none => none
theorem run_szOf {e : TypeId} {i : TypeInfo} (h : P.info? e = some i) : (sizeOf e).run P w = .ok i.size w := by simp [sizeOf, typeInfo, h]
theorem opIndexAddr_ok (hP : Tab.oks P tab) (hT : TmOk ρ T S a) (hW : WI w0 L ρ M S w) {t : TypeId} {x i : Operand} {e : Eff} (h : opIndexAddr tab T M t x i = some e) (hob : e.obl) (ho : o.op = .indexAddr t x i) :
    Oc P a o w (EPost w0 L ρ M S n e) := by
  unfold opIndexAddr at h
  split at h
  case h_2 => cases h
  rename_i ti hti
  have hti := Tab.ok_look hP hti
  obtain ⟨d, hd, hsh⟩ := hti.desc
  split at h
  case h_2 => cases h
  rename_i k j hi
  obtain ⟨h1, _⟩ := ev_ok hT hi
  simp only [SV.conc] at h1
  split at h
  case h_3 => cases h
  · rename_i el sz by_ hs
    obtain ⟨inf, rfl, g2, g3, _⟩ := sh_desc.2.2.2.2.1 el sz by_ (hsh.trans hs)
    split at h
    · rename_i b off len cap hx
      obtain rfl := Option.some.inj h
      obtain ⟨h2, h3⟩ := ev_ok hT hx
      simp only [SV.conc] at h2
      have hob' : 0 ≤ j ∧ j < (len : Int) := hob
      refine Oc.value (w' := w) (v := SV.conc ρ (.ptr b (off + idx j sz))) ?_ (EPost.same hW (v := .ptr b (off + idx j sz)) h3)
      simp [execOp, ho, Instr.indexAt, h1, h2, asIntOf, run_und hd, hob', run_szOf g2, g3, addr_add, SV.conc, idx_eq, Nat.add_assoc]
    · rename_i b hx
      obtain ⟨h2, h3⟩ := ev_ok hT hx
      split at h
      case h_2 => cases h
      rename_i e' m xs ty hb
      split at h
      case h_2 => cases h
      rename_i hsz
      have hsz := Nat.eq_of_beq_eq_true hsz
      obtain rfl := Option.some.inj h
      have hob' : 0 ≤ j ∧ j < (m : Int) := hob
      obtain ⟨_, _, r0, rlen, rr⟩ := hW.mem b _ hb
      rcases rr with ⟨_, rm⟩ | ⟨cap, sp, rh, _, _⟩
      · subst rm; omega
      simp only [SV.conc, rh] at h2
      refine Oc.value (w' := w) (v := SV.conc ρ (.ptr b (idx j sz))) ?_ (EPost.same hW (v := .ptr b (idx j sz)) h3)
      simp [execOp, ho, Instr.indexAt, h1, h2, asIntOf, run_und hd, hob', run_szOf g2, g3, addr_add, SV.conc, idx_eq, r0]
    · cases h
  · rename_i len sz ag hs
    obtain ⟨el, rfl, g2⟩ := sh_desc.2.2.2.2.2.1 len sz ag (hsh.trans hs)
    cases sz with
    | zero => simp at h
    | succ sz =>
    simp only at h
    split at h
    case h_2 => cases h
    rename_i b off hx
    obtain rfl := Option.some.inj h
    obtain ⟨h2, h3⟩ := ev_ok hT hx
    simp only [SV.conc] at h2
    have hob' : 0 ≤ j ∧ j < (len : Int) := hob
    obtain ⟨inf, g4, g5⟩ : ∃ inf, P.info? el = some inf ∧ inf.size = sz + 1 := by
      unfold fieldSh at g2
      split at g2
      · rename_i i d' hi' _
        simp only [Prod.mk.injEq] at g2
        exact ⟨i, hi', g2.1⟩
      · simp at g2
    refine Oc.value (w' := w) (v := SV.conc ρ (.ptr b (off + idx j (sz + 1)))) ?_ (EPost.same hW (v := .ptr b (off + idx j (sz + 1))) h3)
    simp [execOp, ho, Instr.indexAt, h1, h2, asIntOf, run_und hd, hob', run_szOf g4, g5, addr_add, SV.conc, idx_eq, Nat.add_assoc, Instr.sureAddr]
end
end Go.Sx
