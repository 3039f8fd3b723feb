/-
  Laws of the executor, and walks of functions (part 4). The conditions stand with each law.
-/
import Derived.MapKept
import Derived.Test.YthaigkamfnjfbaaMtsc
namespace Go.Sx
def kfind : List (Key × Value) → Key → Nat → Option (Nat × Value)
  | [], _, _ => none
  | (a, v) :: l, k, i => if k = a then some (i, v) else kfind l k (i + 1)
def kput : List (Key × Value) → Key → Value → List (Key × Value)
  | [], k, v => [(k, v)]
  | (a, u) :: l, k, v => if k = a then (a, v) :: l else (a, u) :: kput l k v
/-- With an entry for the key. -/
def kent : List (Key × Value) → Key → Value → List (Key × Value)
  | [], k, z => [(k, z)]
  | (a, u) :: l, k, z => if k = a then (a, u) :: l else (a, u) :: kent l k z
def kidx : List (Key × Value) → Key → Nat
  | [], _ => 0
  | (a, _) :: l, k => if k = a then 0 else kidx l k + 1
def kset : List (Key × Value) → Nat → Value → List (Key × Value)
  | [], _, _ => []
  | (a, _) :: l, 0, v => (a, v) :: l
  | x :: l, n + 1, v => x :: kset l n v
theorem kfind_get : ∀ (l : List (Key × Value)) (k : Key) (i : Nat), (kfind l k i).map (·.2) = kget l k
  | [], _, _ => rfl
  | (a, v) :: l, k, i => by
    unfold kfind kget
    split
    · rfl
    · exact kfind_get l k (i + 1)
theorem kset_ent : ∀ (l : List (Key × Value)) (k : Key) (z v : Value), kset (kent l k z) (kidx l k) v = kput l k v
  | [], _, _, _ => rfl
  | (a, u) :: l, k, z, v => by
    unfold kent kidx kput
    split
    · rfl
    · simp only [kset, kset_ent l k z v]
theorem kget_put_same : ∀ (l : List (Key × Value)) (k : Key) (v : Value), kget (kput l k v) k = some v
  | [], k, v => by simp [kput, kget]
  | (a, u) :: l, k, v => by
    unfold kput
    by_cases h : k = a
    · rw [if_pos h]; simp [kget, h]
    · rw [if_neg h]; simp only [kget, if_neg h]; exact kget_put_same l k v
theorem kget_put_other : ∀ (l : List (Key × Value)) (k k' : Key) (v : Value), k' ≠ k → kget (kput l k v) k' = kget l k'
  | [], k, k', v, h => by simp [kput, kget, h]
  | (a, u) :: l, k, k', v, h => by
    unfold kput
    by_cases h1 : k = a
    · subst h1; rw [if_pos rfl]; simp [kget, h]
    · rw [if_neg h1]
      unfold kget
      split
      · rfl
      · exact kget_put_other l k k' v h
theorem kput_keys : ∀ (l : List (Key × Value)) (k : Key) (v : Value) (x : Key × Value), x ∈ kput l k v → x.1 = k ∨ ∃ y ∈ l, y.1 = x.1
  | [], k, v, x, h => by simp [kput] at h; subst h; exact .inl rfl
  | (a, u) :: l, k, v, x, h => by
    unfold kput at h
    split at h
    · rename_i hk
      rcases List.mem_cons.1 h with rfl | h
      · exact .inl hk.symm
      · exact .inr ⟨x, List.mem_cons_of_mem _ h, rfl⟩
    · rcases List.mem_cons.1 h with rfl | h
      · exact .inr ⟨_, List.mem_cons_self .., rfl⟩
      · rcases kput_keys l k v x h with h | ⟨y, hy, he⟩
        · exact .inl h
        · exact .inr ⟨y, List.mem_cons_of_mem _ hy, he⟩
theorem kent_keys : ∀ (l : List (Key × Value)) (k : Key) (v : Value) (x : Key × Value), x ∈ kent l k v → x.1 = k ∨ ∃ y ∈ l, y.1 = x.1
  | [], k, v, x, h => by simp [kent] at h; subst h; exact .inl rfl
  | (a, u) :: l, k, v, x, h => by
    unfold kent at h
    split at h
    · exact .inr ⟨x, h, rfl⟩
    · rcases List.mem_cons.1 h with rfl | h
      · exact .inr ⟨_, List.mem_cons_self .., rfl⟩
      · rcases kent_keys l k v x h with h | ⟨y, hy, he⟩
        · exact .inl h
        · exact .inr ⟨y, List.mem_cons_of_mem _ hy, he⟩
theorem kset_keys : ∀ (l : List (Key × Value)) (n : Nat) (v : Value) (x : Key × Value), x ∈ kset l n v → ∃ y ∈ l, y.1 = x.1
  | [], n, v, x, h => by simp [kset] at h
  | (a, u) :: l, 0, v, x, h => by
    rcases List.mem_cons.1 h with rfl | h
    · exact ⟨_, List.mem_cons_self .., rfl⟩
    · exact ⟨x, List.mem_cons_of_mem _ h, rfl⟩
  | y :: l, n + 1, v, x, h => by
    rcases List.mem_cons.1 h with rfl | h
    · exact ⟨_, List.mem_cons_self .., rfl⟩
    · obtain ⟨z, hz, he⟩ := kset_keys l n v x h
      exact ⟨z, List.mem_cons_of_mem _ hz, he⟩
theorem kset_length : ∀ (l : List (Key × Value)) (n : Nat) (v : Value), (kset l n v).length = l.length
  | [], _, _ => rfl
  | (_, _) :: l, 0, _ => rfl
  | _ :: l, n + 1, v => by simp [kset, kset_length l n v]
theorem kentF_append : ∀ (l l' : List (Key × Value)) (i : Nat), kentF (l ++ l') i = kentF l i ++ kentF l' (i + l.length)
  | [], l', i => rfl
  | (a, v) :: l, l', i => by
    simp only [List.cons_append, kentF, List.length_cons, kentF_append l l' (i + 1)]
    rw [show i + 1 + l.length = i + (l.length + 1) by omega]
theorem kents_push (l : List (Key × Value)) (k : Key) (v : Value) : (kents l).push { key := k.val, val := v, born := l.length } = kents (l ++ [(k, v)]) := by
  unfold kents
  rw [kentF_append]
  simp [kentF]
theorem kfind_none : ∀ {l : List (Key × Value)} {k : Key} {i : Nat}, kfind l k i = none → (∀ v, kput l k v = l ++ [(k, v)]) ∧ (∀ z, kent l k z = l ++ [(k, z)]) ∧ kidx l k = l.length
  | [], k, i, _ => ⟨fun _ => rfl, fun _ => rfl, rfl⟩
  | (a, u) :: l, k, i, h => by
    unfold kfind at h
    split at h
    · cases h
    · rename_i hk
      obtain ⟨h1, h2, h3⟩ := kfind_none h
      refine ⟨fun v => ?_, fun z => ?_, ?_⟩
      · simp only [kput, if_neg hk, h1, List.cons_append]
      · simp only [kent, if_neg hk, h2, List.cons_append]
      · simp only [kidx, if_neg hk, h3, List.length_cons]
theorem kentF_modify : ∀ (l : List (Key × Value)) (n j : Nat) (v : Value), (kentF l j).modify n (fun e => { e with val := v }) = kentF (kset l n v) j
  | [], n, j, v => by cases n <;> simp [kentF, kset]
  | (a, u) :: l, 0, j, v => by simp [kentF, kset]
  | (a, u) :: l, n + 1, j, v => by simp [kentF, kset, kentF_modify l n (j + 1) v]
theorem kfind_some : ∀ {l : List (Key × Value)} {k : Key} {i j : Nat} {u : Value}, kfind l k i = some (j, u) → i ≤ j ∧ kidx l k = j - i ∧ j - i < l.length ∧ l[j - i]? = some (k, u) ∧ (∀ z, kent l k z = l)
  | [], k, i, j, u, h => by simp [kfind] at h
  | (a, v) :: l, k, i, j, u, h => by
    unfold kfind at h
    split at h
    · rename_i hk
      obtain ⟨rfl, rfl⟩ := Prod.mk.inj (Option.some.inj h)
      subst hk
      refine ⟨Nat.le_refl _, by simp [kidx], by simp, by simp, fun z => by simp [kent]⟩
    · rename_i hk
      obtain ⟨h1, h2, h3, h4, h5⟩ := kfind_some h
      have e : j - i = (j - (i + 1)) + 1 := by omega
      refine ⟨by omega, by simp only [kidx, if_neg hk, h2]; omega, by simp only [List.length_cons]; omega, by rw [e]; simpa using h4, fun z => by simp only [kent, if_neg hk, h5]⟩
theorem kput_set {l : List (Key × Value)} {k : Key} {j : Nat} {u v : Value} (h : kfind l k 0 = some (j, u)) : kput l k v = kset l j v := by
  obtain ⟨_, h2, _, _, h5⟩ := kfind_some h
  rw [← kset_ent l k u v, h5, h2, Nat.sub_zero]
theorem kentF_get : ∀ (l : List (Key × Value)) (n j : Nat) (x : Key × Value), l[n]? = some x → (kentF l j)[n]? = some { key := x.1.val, val := x.2, born := j + n }
  | [], n, j, x, h => by simp at h
  | (a, u) :: l, 0, j, x, h => by simp at h; subst h; simp [kentF]
  | (a, u) :: l, n + 1, j, x, h => by
    simp only [List.getElem?_cons_succ] at h
    simp only [kentF, List.getElem?_cons_succ, kentF_get l n (j + 1) x h]
    congr 2; omega
theorem kentF_born : ∀ (l : List (Key × Value)) (n j : Nat), n < l.length → (kentF l j).findIdx? (fun e => (e.born : Int) == ((j + n : Nat) : Int)) = some n
  | [], n, j, h => by simp at h
  | (a, u) :: l, 0, j, h => by simp [kentF, List.findIdx?_cons]
  | (a, u) :: l, n + 1, j, h => by
    simp only [List.length_cons] at h
    have ih := kentF_born l n (j + 1) (by omega)
    have e : ((j : Nat) : Int) == ((j + (n + 1) : Nat) : Int) ↔ False := by simp; omega
    simp only [kentF, List.findIdx?_cons]
    rw [if_neg (by simpa using e)]
    rw [show j + (n + 1) = j + 1 + n by omega, ih]
    rfl
def env00 : Env := ⟨fun _ => 0, fun _ => 0, fun _ => (none, 0, 0)⟩
def keyKind (tk : TI) : Option Bool :=
  match tk.sh with
  | .int .i64 => some false
  | .str _ => match tk.eqn with
    | some 2 => some true
    | _ => none
  | _ => none
def keyS (tk : TI) (kv : SV) : Option Key :=
  match keyKind tk with
  | some false => match kv with
    | .v (.int .i64 a) => some (.i a)
    | _ => none
  | some true => match kv with
    | .agg [.v (.int .i64 a), .v (.int .i64 b)] => some (.p a b)
    | _ => none
  | none => none
theorem keyS_ok {tk : TI} {kv : SV} {k : Key} (h : keyS tk kv = some k) : (∀ ρ, kv.conc ρ = k.val) ∧ keyKind tk = some k.pair := by
  unfold keyS at h
  split at h
  · rename_i hk
    split at h
    · obtain rfl := Option.some.inj h; exact ⟨fun _ => rfl, hk⟩
    · cases h
  · rename_i hk
    split at h
    · obtain rfl := Option.some.inj h; exact ⟨fun _ => by simp [SV.conc, SV.concs, Key.val], hk⟩
    · cases h
  · cases h
section
variable {P : Program} {w : World}
theorem run_checkKey_int {t : TypeId} {kk : IntKind} (h : P.underlying t = some (.int kk)) (e : Bool) (n : Nat) (a : Int) : (Instr.checkKey e (n + 1) t (.int .i64 a)).run P w = .ok () w := by
  unfold Instr.checkKey
  simp [run_und h]
theorem run_checkKey_pair {kt : TypeId} {fields : Array Field} (hd : P.underlying kt = some (.struct fields)) (h2 : fields.toList.length = 2) (hall : ∀ f ∈ fields.toList, ∃ kk, P.underlying f.type = some (.int kk)) (a b : Int) (ho : ∀ (i : Nat) (f : Field), fields[i]? = some f → f.offset = i) (e : Bool) (n : Nat) :
    (Instr.checkKey e (n + 2) kt (.agg #[.int .i64 a, .int .i64 b])).run P w = .ok () w := by
  obtain ⟨l⟩ := fields
  match l, h2 with
  | [f, g], _ =>
    obtain ⟨k1, h1⟩ := hall f (by simp)
    obtain ⟨k3, h3⟩ := hall g (by simp)
    have o1 := ho 0 f rfl
    have o2 := ho 1 g rfl
    have ag1 : (Go.isAgg f.type).run P w = .ok false w := by simp [Go.isAgg, run_und h1]
    have ag2 : (Go.isAgg g.type).run P w = .ok false w := by simp [Go.isAgg, run_und h3]
    have p1 : (part f.type #[.int .i64 a, .int .i64 b] f.offset).run P w = .ok (.int .i64 a) w := by simp [part, ag1, o1]
    have p2 : (part g.type #[.int .i64 a, .int .i64 b] g.offset).run P w = .ok (.int .i64 b) w := by simp [part, ag2, o2]
    have c1 := run_checkKey_int (w := w) h1 e n a
    have c2 := run_checkKey_int (w := w) h3 e n b
    unfold Instr.checkKey
    by_cases n1 : f.name = "_" <;> by_cases n2 : g.name = "_" <;> simp [run_und hd, n1, n2, p1, p2, c1, c2]
theorem pair_fields {kt : TypeId} {tk : TI} (hk : TI.ok P kt tk) (hkk : keyKind tk = some true) : ∃ fields : Array Field, P.underlying kt = some (.struct fields) ∧ fields.toList.length = 2 ∧ (∀ f ∈ fields.toList, ∃ kk, P.underlying f.type = some (.int kk)) ∧
    (∀ (i : Nat) (f : Field), fields[i]? = some f → f.offset = i) ∧ P.stoodInHeld kt = false ∧ (fields.toList.zipIdx.all fun (f, i) => f.name != "_" && f.offset == i && (match P.underlying f.type with | some (.int _) => true | _ => false)) = true := by
  unfold keyKind at hkk
  split at hkk
  case h_1 => cases hkk
  case h_3 => cases hkk
  split at hkk
  case h_2 => cases hkk
  rename_i hm
  have hq := hk.eq
  rw [hm] at hq
  simp only [Option.all_some, eqInts, Bool.and_eq_true, Bool.not_eq_true'] at hq
  obtain ⟨⟨q1, q2⟩, q3⟩ := hq
  cases hd : P.underlying kt with
  | none => simp [hd] at q3
  | some d =>
    cases d <;> simp only [hd] at q3 <;> try (cases q3; done)
    rename_i fields
    simp only [Bool.and_eq_true, beq_iff_eq] at q3
    refine ⟨fields, rfl, q3.1, fun f hf => ?_, fun i f hf => ?_, q1, q3.2⟩
    · obtain ⟨i, hi⟩ := List.getElem?_of_mem hf
      have := List.all_eq_true.1 q3.2 (f, i) (List.mem_iff_getElem?.2 ⟨i, by simp [List.getElem?_zipIdx] at hi ⊢; exact hi⟩)
      simp only [Bool.and_eq_true] at this
      split at this
      · rename_i kk hkk; exact ⟨kk, hkk⟩
      · exact absurd this.2 (by simp)
    · have := List.all_eq_true.1 q3.2 (f, i) (List.mem_iff_getElem?.2 ⟨i, by simp [List.getElem?_zipIdx] at hf ⊢; exact hf⟩)
      simp only [Bool.and_eq_true, beq_iff_eq] at this
      exact this.1.2
theorem int_und {kt : TypeId} {tk : TI} (hk : TI.ok P kt tk) (hkk : keyKind tk = some false) : P.underlying kt = some (.int .i64) := by
  unfold keyKind at hkk
  split at hkk
  · rename_i hs
    obtain ⟨d, h1, h2⟩ := hk.desc
    rw [h1, sh_desc.2.2.2.1 _ (h2.trans hs)]
  · split at hkk
    · cases hkk
    · cases hkk
  · cases hkk
theorem run_checkKey_k {kt : TypeId} {tk : TI} (hk : TI.ok P kt tk) {k : Key} (hkk : keyKind tk = some k.pair) (e : Bool) : (Instr.checkKey e 10000 kt k.val).run P w = .ok () w := by
  cases k with
  | i a => exact MapKept.run_checkKey (int_und hk hkk) (show MapKept.IsKey (.int .i64) (.int .i64 a) from rfl) e 9999
  | p a b =>
    obtain ⟨fields, h1, h2, h3, h4, _⟩ := pair_fields hk hkk
    exact run_checkKey_pair h1 h2 h3 a b h4 e 9998
theorem run_equal_pair {kt : TypeId} {tk : TI} (hk : TI.ok P kt tk) (hkk : keyKind tk = some true) (a b c d : Int) : (Op.equal kt (Key.p a b).val (Key.p c d).val).run P w = .ok (a == c && (b == d && true)) w := by
  obtain ⟨fields, h1, h2, h3, h4, h5, h6⟩ := pair_fields hk hkk
  have hf : P.fieldsOf kt = fields := by simp [Program.fieldsOf, h1]
  have hrun := eqFields_run P w 9998 env00 [.v (.int .i64 a), .v (.int .i64 b)] [.v (.int .i64 c), .v (.int .i64 d)] fields.toList 0 _ _ (a == c && (b == d && true)) rfl (by rw [h2]; rfl) rfl rfl h6
  show (Op.equalIn 10000 kt (.agg #[.int .i64 a, .int .i64 b]) (.agg #[.int .i64 c, .int .i64 d])).run P w = _
  rw [run_equalIn_struct w 9999 kt _ _ (by rw [hf]; exact h1) h5, hf]
  simpa [SV.concs, SV.conc] using hrun
theorem run_ask {kt : TypeId} {tk : TI} (hk : TI.ok P kt tk) (hkk : keyKind tk = some true) (a b : Int) : ∀ (l : List (Key × Value)) (i j : Nat), (∀ x ∈ l, x.1.pair = true) → (Instr.findAsking kt (Key.p a b).val (kentF l j) i).run P w = .ok (kfind l (.p a b) i) w
  | [], i, j, _ => by simp [kentF, kfind, Instr.findAsking]
  | (.i c, v) :: l, i, j, h => by have := h (.i c, v) (by simp); cases this
  | (.p c d, v) :: l, i, j, h => by
    have ih := run_ask hk hkk a b l (i + 1) (j + 1) (fun x hx => h x (by simp [hx]))
    have he := run_equal_pair (w := w) hk hkk a b c d
    simp only [kentF, Instr.findAsking, Sem.run_bind, he, Result.andThen_ok, Sem.run_ite, ih, kfind, Sem.run_pure]
    by_cases hc : a = c ∧ b = d
    · obtain ⟨rfl, rfl⟩ := hc; simp
    · rw [if_neg (by simpa using hc), if_neg (by simpa using hc)]
theorem findNow_kent : ∀ (l : List (Key × Value)) (k : Int) (j i : Nat), (∀ x ∈ l, x.1.pair = false) → Instr.findNow (.int .i64) (.int .i64 k) (kentF l j) i = some (kfind l (.i k) i)
  | [], _, _, _, _ => rfl
  | (.p a b, v) :: l, k, j, i, h => by have := h (.p a b, v) (by simp); cases this
  | (.i a, v) :: l, k, j, i, hl => by
    unfold kentF kfind
    simp only [Instr.findNow, Instr.sameNow, if_true, Key.val]
    by_cases h : k = a
    · simp [h]
    · rw [if_neg (by simpa using h), show (k == a) = false by simpa using h]
      exact findNow_kent l k (j + 1) (i + 1) (fun x hx => hl x (by simp [hx]))
theorem run_find {kt : TypeId} {tk : TI} (hk : TI.ok P kt tk) {k : Key} (hkk : keyKind tk = some k.pair) {l : List (Key × Value)} (hl : ∀ x ∈ l, x.1.pair = k.pair) : (Instr.findKey kt k.val (kents l).toList).run P w = .ok (kfind l k 0) w := by
  cases k with
  | i a => exact MapKept.run_findKey (int_und hk hkk) (by simpa [kents, Key.val] using findNow_kent l a 0 0 hl)
  | p a b =>
    obtain ⟨fields, h1, _⟩ := pair_fields hk hkk
    have hask := run_ask (w := w) hk hkk a b l 0 0 hl
    cases l with
    | nil => simp [Instr.findKey, run_underlying h1, Instr.findNow, kents, kentF, kfind]
    | cons x l =>
      obtain ⟨x1, x2⟩ := x
      simp only [kents, kentF, Instr.findKey, Sem.run_bind, run_underlying h1, Result.andThen_ok, Instr.findNow, Key.val, Instr.sameNow] at hask ⊢
      exact hask
theorem run_stays (k : Key) : (Instr.keyThatStays k.val k.val).run P w = .ok k.val w := by
  have : Instr.sameBits 10000 k.val k.val = true := by
    cases k with
    | i a => simp [Key.val, Instr.sameBits]
    | p a b => simp [Key.val, Instr.sameBits]
  simp [Instr.keyThatStays, this]
end
def World.putO (w : World) (l : Nat) (o : Obj) : World := { w with heap := w.heap.setIfInBounds l o }
theorem putO_same {w : World} {l : Nat} {o o' : Obj} (h : w.heap[l]? = some o') : (World.putO w l o).heap[l]? = some o := by
  have hl : l < w.heap.size := (Array.getElem?_eq_some_iff.1 h).1
  simp [World.putO, hl]
theorem putO_other {w : World} {l k : Nat} {o : Obj} (h : k ≠ l) : (World.putO w l o).heap[k]? = w.heap[k]? := by
  simp [World.putO, Ne.symm h]
theorem putO_size {w : World} {l : Nat} {o : Obj} : (World.putO w l o).heap.size = w.heap.size := by simp [World.putO]
def kinfo (tab : Tab) (t : TypeId) : Option (TypeId × TI × TypeId × Value) :=
  match look tab t with
  | some ti => match ti.sh with
    | .map kt et => match look tab kt with
      | some tk => match look tab et with
        | some te => match te.raw with
          | some z => some (kt, tk, et, z)
          | none => none
        | none => none
      | none => none
    | _ => none
  | none => none
section
variable {P : Program} {tab : Tab} {w0 w : World} {L : List (Nat × Nat)} {ρ : Env} {T : Tm} {M : Mem} {S : Nat → Prop} {n : Nat} {a : Act} {o : Oper}
theorem kinfo_ok (hP : Tab.oks P tab) {t kt et : TypeId} {tk : TI} {z : Value} (h : kinfo tab t = some (kt, tk, et, z)) : P.underlying t = some (.map kt et) ∧ TI.ok P kt tk ∧ ∀ w, (zeroValue et).run P w = .ok z w := by
  unfold kinfo at h
  split at h
  case h_2 => cases h
  rename_i ti hti
  split at h
  case h_2 => cases h
  rename_i kt' et' hs
  split at h
  case h_2 => cases h
  rename_i tk' htk
  split at h
  case h_2 => cases h
  rename_i te hte
  split at h
  case h_2 => cases h
  rename_i z' hz
  simp only [Option.some.injEq, Prod.mk.injEq] at h
  obtain ⟨rfl, rfl, rfl, rfl⟩ := h
  obtain ⟨d, h1, h2⟩ := (Tab.ok_look hP hti).desc
  rw [hs] at h2
  have hr := (Tab.ok_look hP hte).rawz
  rw [hz] at hr
  refine ⟨?_, Tab.ok_look hP htk, fun w => ?_⟩
  · cases d <;> simp only [shOf] at h2 <;> try (cases h2; done)
    case slice e => split at h2 <;> cases h2
    case map k e => injection h2 with e1 e2; subst e1 e2; exact h1
  · cases hi : P.info? et' with
    | none => simp [hi] at hr
    | some i => simp [hi] at hr; simp [zeroValue, typeInfo, hi, hr]
def lookR (ok : Bool) (r : Option Value) (z : Value) : SV :=
  match ok with
  | false => .v (r.getD z)
  | true => .tup [.v (r.getD z), .v (.bool r.isSome)]
theorem lookR_sc (S : Nat → Prop) (ok : Bool) (r : Option Value) (z : Value) : (lookR ok r z).sc S := by cases ok <;> simp [lookR, SV.sc, SV.scs]
def opLookup (tab : Tab) (T : Tm) (M : Mem) (t : TypeId) (x y : Operand) (ok : Bool) : Option Eff :=
  match kinfo tab t with
  | some (_, tk, _, z) => match ev T y with
    | some kv => match keyS tk kv with
      | some k => match ev T x with
        | some (.mp i) => match M i with
          | some (.kmap pk _ l) => match (k.pair == pk) with
            | true => some (.val none (lookR ok (kget l k) z))
            | false => none
          | some (.kwin pk l) => match (k.pair == pk) with
            | true => some (.val none (lookR ok (kget l k) z))
            | false => none
          | _ => none
        | some (.v (.map none)) => some (.val none (lookR ok none z))
        | _ => none
      | none => none
    | none => none
  | none => none
theorem lookup_run {t kt et : TypeId} {tk : TI} {z : Value} (ht : P.underlying t = some (.map kt et)) (hk : TI.ok P kt tk) (hz : ∀ w, (zeroValue et).run P w = .ok z w) {k : Key} (hkk : keyKind tk = some k.pair) {l : List (Key × Value)} (hl : ∀ x ∈ l, x.1.pair = k.pair)
    {m : Option Nat} (hm : (m = none ∧ l = []) ∨ ∃ b, m = some b ∧ w.heap[b]? = some (kobj l)) (ok : Bool) : (Instr.lookup t (.map m) k.val ok).run P w = .ok ((lookR ok (kget l k) z).conc ρ) w := by
  have hg := kfind_get l k 0
  rcases hm with ⟨rfl, rfl⟩ | ⟨b, rfl, hb⟩
  · have hf := run_find (w := w) hk hkk (l := []) (by simp)
    have hc := run_checkKey_k (w := w) hk hkk true
    simp only [kents, kentF, kfind] at hf
    cases ok <;> simp [Instr.lookup, run_underlying ht, hc, hf, hz, lookR, kget, SV.conc, SV.concs]
  · have hf := run_find (w := w) hk hkk hl
    have hc := run_checkKey_k (w := w) hk hkk (kents l).isEmpty
    have hb' : w.heap[b]? = some (.map (kents l) l.length) := hb
    cases hi : kfind l k 0 with
    | none =>
      rw [hi] at hg hf
      cases ok <;> simp [Instr.lookup, run_underlying ht, MapKept.run_getObj_map hb', hc, hf, hz, ← hg, lookR, SV.conc, SV.concs]
    | some x =>
      rw [hi] at hg hf
      cases ok <;> simp [Instr.lookup, run_underlying ht, MapKept.run_getObj_map hb', hc, hf, ← hg, lookR, SV.conc, SV.concs]
theorem opLookup_ok (hP : Tab.oks P tab) (hT : TmOk ρ T S a) (hW : WI w0 L ρ M S w) {t : TypeId} {x y : Operand} {ok : Bool} {e : Eff} (h : opLookup tab T M t x y ok = some e) (ho : o.op = .lookup t x y ok) : Oc P a o w (EPost w0 L ρ M S n e) := by
  unfold opLookup at h
  split at h
  case h_2 => cases h
  rename_i kt tk et z hki
  obtain ⟨ht, hk, hz⟩ := kinfo_ok hP hki
  split at h
  case h_2 => cases h
  rename_i kv hkv
  split at h
  case h_2 => cases h
  rename_i k hks
  obtain ⟨k1, k2⟩ := keyS_ok hks
  obtain ⟨h1, _⟩ := ev_ok hT hkv
  rw [k1 ρ] at h1
  split at h
  case h_3 => cases h
  · rename_i i hx
    obtain ⟨h2, _⟩ := ev_ok hT hx
    simp only [SV.conc] at h2
    split at h
    case h_3 => cases h
    · rename_i pk nn l hi
      split at h
      case h_2 => cases h
      rename_i hpk
      have hpk : k.pair = pk := by simpa using hpk
      obtain rfl := Option.some.inj h
      obtain ⟨_, _, hl, hh⟩ := hW.mem i _ hi
      have hr := lookup_run (w := w) (ρ := ρ) ht hk hz k2 (l := l) (fun x hx => (hl x hx).trans hpk.symm) (m := if ρ.o i = 0 then some (ρ.s i) else none) (by
        rcases hh with ⟨e1, e2⟩ | ⟨_, e1, e2⟩
        · exact .inr ⟨_, if_pos e1, e2⟩
        · exact .inl ⟨if_neg e1, e2⟩) ok
      exact Oc.value (w' := w) (by simp [execOp, ho, h1, h2, hr]) (EPost.same hW (lookR_sc S _ _ _))
    · rename_i pk l hi
      split at h
      case h_2 => cases h
      rename_i hpk
      have hpk : k.pair = pk := by simpa using hpk
      obtain rfl := Option.some.inj h
      obtain ⟨_, _, hl, hh⟩ := hW.mem i _ hi
      have hr := lookup_run (w := w) (ρ := ρ) ht hk hz k2 (l := l) (fun x hx => (hl x hx).trans hpk.symm) (m := if ρ.o i = 0 then some (ρ.s i) else none) (by
        rcases hh with ⟨e1, e2, e3, e4⟩ | ⟨e1, e2⟩
        · exact .inr ⟨_, if_pos e1, by rw [hW.keep _ e2 e3]; exact e4⟩
        · exact .inl ⟨if_neg e1, e2⟩) ok
      exact Oc.value (w' := w) (by simp [execOp, ho, h1, h2, hr]) (EPost.same hW (lookR_sc S _ _ _))
  · rename_i hx
    obtain ⟨h2, _⟩ := ev_ok hT hx
    simp only [SV.conc] at h2
    obtain rfl := Option.some.inj h
    have hr := lookup_run (w := w) (ρ := ρ) ht hk hz k2 (l := []) (by simp) (m := none) (.inl ⟨rfl, rfl⟩) ok
    exact Oc.value (w' := w) (by simp [execOp, ho, h1, h2, hr, kget]) (EPost.same hW (lookR_sc S _ _ _))
def opMakeMap (tab : Tab) (n : Nat) (t : TypeId) (r : Option Operand) : Option Eff :=
  match r with
  | none => match kinfo tab t with
    | some (_, tk, _, _) => match keyKind tk with
      | some pk => some (.new (.mp n) (.kmap pk true []))
      | none => none
    | none => none
  | some _ => none
theorem opMakeMap_ok (hW : WI w0 L ρ M S w) (hn : ¬ S n) {t : TypeId} {r : Option Operand} {e : Eff} (h : opMakeMap tab n t r = some e) (ho : o.op = .makeMap t r) : Oc P a o w (EPost w0 L ρ M S n e) := by
  unfold opMakeMap at h
  split at h
  case h_2 => cases h
  split at h
  case h_2 => cases h
  split at h
  case h_2 => cases h
  rename_i pk _
  obtain rfl := Option.some.inj h
  obtain ⟨h1, h2⟩ := hW.alloc (i := n) hn (o := .kmap pk true []) (x := .map #[] 0) trivial (fun ρ' w' _ hs' ho' hh => ⟨by simp, .inl ⟨ho', by rw [hs', hh]; rfl⟩⟩)
  refine Oc.value (w' := w.alloc (.map #[] 0)) (v := .map (some w.heap.size)) (by simp [execOp, ho, Instr.makeMap]) ⟨_, h2, by simp [Eff.res, SV.conc, Env.bind], .inr rfl, h1⟩
theorem WI.putK (hW : WI w0 L ρ M S w) {i : Nat} {pk : Bool} {l l' : List (Key × Value)} (hi : M i = some (.kmap pk true l)) (hl : ∀ x ∈ l', x.1.pair = pk) :
    ρ.o i = 0 ∧ w.heap[ρ.s i]? = some (kobj l) ∧ WI w0 L ρ (upd M i (.kmap pk true l')) S (World.putO w (ρ.s i) (kobj l')) := by
  obtain ⟨_, _, _, h3⟩ := hW.mem i _ hi
  rcases h3 with ⟨h4, h5⟩ | ⟨h4, _⟩
  · exact ⟨h4, h5, hW.write (o' := .kmap pk true l') hi h4 trivial (putO_same h5) (fun hh => ⟨hl, .inl ⟨h4, hh⟩⟩) (fun k hk => putO_other hk) putO_size rfl rfl rfl⟩
  · cases h4
/-- The map, the key, the types. -/
def opMapAt (tab : Tab) (T : Tm) (M : Mem) (t : TypeId) (x : Operand) : Option (Nat × Bool × List (Key × Value) × TI × Value) :=
  match kinfo tab t with
  | some (_, tk, _, z) => match ev T x with
    | some (.mp i) => match M i with
      | some (.kmap pk nn l) => match nn with
        | true => some (i, pk, l, tk, z)
        | false => none
      | _ => none
    | _ => none
  | none => none
theorem opMapAt_ok (hP : Tab.oks P tab) (hT : TmOk ρ T S a) (hW : WI w0 L ρ M S w) {t : TypeId} {x : Operand} {i : Nat} {pk : Bool} {l : List (Key × Value)} {tk : TI} {z : Value} (h : opMapAt tab T M t x = some (i, pk, l, tk, z)) :
    M i = some (.kmap pk true l) ∧ a.eval x = .map (some (ρ.s i)) ∧ (∀ y ∈ l, y.1.pair = pk) ∧ ∃ kt et, P.underlying t = some (.map kt et) ∧ TI.ok P kt tk ∧ ∀ w, (zeroValue et).run P w = .ok z w := by
  unfold opMapAt at h
  split at h
  case h_2 => cases h
  rename_i kt tk' et z' hki
  split at h
  case h_2 => cases h
  rename_i j hx
  split at h
  case h_2 => cases h
  rename_i pk' nn l' hj
  split at h
  case h_2 => cases h
  simp only [Option.some.injEq, Prod.mk.injEq] at h
  obtain ⟨rfl, rfl, rfl, rfl, rfl⟩ := h
  obtain ⟨h2, _⟩ := ev_ok hT hx
  obtain ⟨_, _, hl, hh⟩ := hW.mem _ _ hj
  rcases hh with ⟨e1, e2⟩ | ⟨e1, _⟩
  · simp only [SV.conc, if_pos e1] at h2
    exact ⟨hj, h2, hl, kt, et, kinfo_ok hP hki⟩
  · cases e1
def opMapPut (tab : Tab) (T : Tm) (M : Mem) (t : TypeId) (x y z : Operand) : Option Eff :=
  match opMapAt tab T M t x with
  | some (i, pk, l, tk, _) => match ev T y with
    | some kv => match keyS tk kv with
      | some k => match (k.pair == pk) with
        | true => match ev T z with
          | some (.v v) => some (.wr i (.kmap pk true (kput l k v)))
          | _ => none
        | false => none
      | none => none
    | none => none
  | none => none
theorem opMapPut_ok (hP : Tab.oks P tab) (hT : TmOk ρ T S a) (hW : WI w0 L ρ M S w) {t : TypeId} {x y z : Operand} {e : Eff} (h : opMapPut tab T M t x y z = some e) (ho : o.op = .mapUpdate t x y z ∨ o.op = .insert t x y z) : Oc P a o w (EPost w0 L ρ M S n e) := by
  unfold opMapPut at h
  split at h
  case h_2 => cases h
  rename_i i pk l tk zz hat
  obtain ⟨hi, hx, hl, kt, et, ht, hk, hz⟩ := opMapAt_ok hP hT hW hat
  split at h
  case h_2 => cases h
  rename_i kv hkv
  split at h
  case h_2 => cases h
  rename_i k hks
  obtain ⟨k1, k2⟩ := keyS_ok hks
  obtain ⟨h1, _⟩ := ev_ok hT hkv
  rw [k1 ρ] at h1
  split at h
  case h_2 => cases h
  rename_i hpk
  have hpk : k.pair = pk := by simpa using hpk
  split at h
  case h_2 => cases h
  rename_i v hv
  obtain ⟨h3, _⟩ := ev_ok hT hv
  simp only [SV.conc] at h3
  obtain rfl := Option.some.inj h
  obtain ⟨e1, e2, e3⟩ := hW.putK hi (l' := kput l k v) (fun y hy => by
    rcases kput_keys l k v y hy with h | ⟨y', hy', he⟩
    · rw [h, hpk]
    · rw [← he]; exact hl y' hy')
  have hf := run_find (w := w) hk k2 (l := l) (fun y hy => (hl y hy).trans hpk.symm)
  have hc := run_checkKey_k (w := w) hk k2 false
  have hb' : w.heap[ρ.s i]? = some (.map (kents l) l.length) := e2
  have hrun : (Instr.mapUpdate t (.map (some (ρ.s i))) k.val v).run P w = .ok () (World.putO w (ρ.s i) (kobj (kput l k v))) := by
    cases hfi : kfind l k 0 with
    | none =>
      rw [hfi] at hf
      simp [Instr.mapUpdate, run_underlying ht, MapKept.run_getObj_map hb', hc, hf, MapKept.run_setObj_map _ hb']
      rw [kents_push, (kfind_none hfi).1]
      simp [World.putO, kobj]
    | some ju =>
      obtain ⟨j, u⟩ := ju
      rw [hfi] at hf
      obtain ⟨_, g2, g3, g4, _⟩ := kfind_some hfi
      simp only [Nat.sub_zero] at g2 g3 g4
      have hent : (kents l)[j]? = some { key := k.val, val := u, born := j } := by
        have := kentF_get l j 0 _ g4
        simpa [kents] using this
      have hst := run_stays (P := P) (w := w) k
      simp [Instr.mapUpdate, run_underlying ht, MapKept.run_getObj_map hb', hc, hf, hent, hst, MapKept.run_setObj_map _ hb']
      have hmod : (kents l).modify j (fun e => { e with key := k.val, val := v }) = kents (kput l k v) := by
        rw [kput_set hfi]
        apply Array.ext'
        rw [Array.toList_modify]
        show (kentF l 0).modify j _ = kentF (kset l j v) 0
        rw [← kentF_modify l j 0 v]
        apply List.ext_getElem?
        intro q
        simp only [List.getElem?_modify]
        by_cases hq : j = q
        · subst hq
          have := kentF_get l j 0 _ g4
          simp [this]
        · simp [hq]
      rw [hmod]
      simp [World.putO, kobj, kput_set hfi, kset_length]
  refine Oc.skip (w' := World.putO w (ρ.s i) (kobj (kput l k v))) ?_ ⟨ρ, Env.agree.refl S ρ, rfl, trivial, e3⟩
  rcases ho with ho | ho <;> simp [execOp, ho, h1, hx, h3, hrun]
def opMapEntry (tab : Tab) (T : Tm) (M : Mem) (t : TypeId) (x y : Operand) : Option Eff :=
  match opMapAt tab T M t x with
  | some (i, pk, l, tk, z) => match ev T y with
    | some kv => match keyS tk kv with
      | some k => match (k.pair == pk) with
        | true => some (.wrv none i (.kmap pk true (kent l k z)) (.tup [.v ((kget l k).getD z), .v (.int .i64 ((kidx l k : Nat) : Int))]))
        | false => none
      | none => none
    | none => none
  | none => none
theorem opMapEntry_ok (hP : Tab.oks P tab) (hT : TmOk ρ T S a) (hW : WI w0 L ρ M S w) {t : TypeId} {x y : Operand} {e : Eff} (h : opMapEntry tab T M t x y = some e) (ho : o.op = .mapEntry t x y) : Oc P a o w (EPost w0 L ρ M S n e) := by
  unfold opMapEntry at h
  split at h
  case h_2 => cases h
  rename_i i pk l tk z hat
  obtain ⟨hi, hx, hl, kt, et, ht, hk, hz⟩ := opMapAt_ok hP hT hW hat
  split at h
  case h_2 => cases h
  rename_i kv hkv
  split at h
  case h_2 => cases h
  rename_i k hks
  obtain ⟨k1, k2⟩ := keyS_ok hks
  obtain ⟨h1, _⟩ := ev_ok hT hkv
  rw [k1 ρ] at h1
  split at h
  case h_2 => cases h
  rename_i hpk
  have hpk : k.pair = pk := by simpa using hpk
  obtain rfl := Option.some.inj h
  obtain ⟨e1, e2, e3⟩ := hW.putK hi (l' := kent l k z) (fun y hy => by
    rcases kent_keys l k z y hy with h | ⟨y', hy', he⟩
    · rw [h, hpk]
    · rw [← he]; exact hl y' hy')
  have hf := run_find (w := w) hk k2 (l := l) (fun y hy => (hl y hy).trans hpk.symm)
  have hg := kfind_get l k 0
  have hc := run_checkKey_k (w := w) hk k2 false
  have hb' : w.heap[ρ.s i]? = some (.map (kents l) l.length) := e2
  have hrun : (Instr.mapEntry t (.map (some (ρ.s i))) k.val).run P w = .ok (.tuple #[(kget l k).getD z, .int .i64 ((kidx l k : Nat) : Int)]) (World.putO w (ρ.s i) (kobj (kent l k z))) := by
    cases hfi : kfind l k 0 with
    | none =>
      rw [hfi] at hf hg
      obtain ⟨g1, g2, g3⟩ := kfind_none hfi
      simp [Instr.mapEntry, run_underlying ht, MapKept.run_getObj_map hb', hc, hf, MapKept.run_setObj_map _ hb', hz, ← hg, g3, goInt]
      rw [kents_push, g2]
      simp [World.putO, kobj]
    | some ju =>
      obtain ⟨j, u⟩ := ju
      rw [hfi] at hf hg
      obtain ⟨_, g2, g3, g4, g5⟩ := kfind_some hfi
      simp only [Nat.sub_zero] at g2 g3 g4
      have hent : (kents l)[j]? = some { key := k.val, val := u, born := j } := by
        have := kentF_get l j 0 _ g4
        simpa [kents] using this
      have hst := run_stays (P := P) (w := w) k
      simp [Instr.mapEntry, run_underlying ht, MapKept.run_getObj_map hb', hc, hf, hent, hst, MapKept.run_setObj_map _ hb', ← hg, g2, goInt]
      have hmod : (kents l).modify j (fun e => { e with key := k.val }) = kents l := by
        apply Array.ext'
        rw [Array.toList_modify]
        show (kentF l 0).modify j _ = kentF l 0
        apply List.ext_getElem?
        intro q
        simp only [List.getElem?_modify]
        by_cases hq : j = q
        · subst hq
          have := kentF_get l j 0 _ g4
          simp [this]
        · simp [hq]
      rw [hmod, g5]
      simp [World.putO, kobj]
  refine Oc.value (w' := World.putO w (ρ.s i) (kobj (kent l k z))) (v := .tuple #[(kget l k).getD z, .int .i64 ((kidx l k : Nat) : Int)]) (by simp [execOp, ho, h1, hx, hrun]) ⟨ρ, Env.agree.refl S ρ, by simp [Eff.res, SV.conc, SV.concs], ⟨trivial, trivial, trivial⟩, e3⟩
def opEntryStore (tab : Tab) (T : Tm) (M : Mem) (t : TypeId) (x y z : Operand) : Option Eff :=
  match opMapAt tab T M t x with
  | some (i, pk, l, _, _) => match ev T y with
    | some (.v (.int .i64 j)) => match ev T z with
      | some (.v v) => some (.wrv (some (0 ≤ j ∧ j < (l.length : Int))) i (.kmap pk true (kset l j.toNat v)) (.v undef))
      | _ => none
    | _ => none
  | none => none
theorem opEntryStore_ok (hP : Tab.oks P tab) (hT : TmOk ρ T S a) (hW : WI w0 L ρ M S w) {t : TypeId} {x y z : Operand} {e : Eff} (h : opEntryStore tab T M t x y z = some e) (hob : e.obl) (ho : o.op = .entryStore t x y z) : Oc P a o w (EPost w0 L ρ M S n e) := by
  unfold opEntryStore at h
  split at h
  case h_2 => cases h
  rename_i i pk l tk zz hat
  obtain ⟨hi, hx, hl, kt, et, ht, hk, hz⟩ := opMapAt_ok hP hT hW hat
  split at h
  case h_2 => cases h
  rename_i j hj
  obtain ⟨h1, _⟩ := ev_ok hT hj
  simp only [SV.conc] at h1
  split at h
  case h_2 => cases h
  rename_i v hv
  obtain ⟨h3, _⟩ := ev_ok hT hv
  simp only [SV.conc] at h3
  obtain rfl := Option.some.inj h
  have hob' : 0 ≤ j ∧ j < (l.length : Int) := hob
  obtain ⟨m, rfl⟩ : ∃ m : Nat, j = (m : Int) := ⟨j.toNat, by omega⟩
  rw [Int.toNat_natCast] at *
  obtain ⟨e1, e2, e3⟩ := hW.putK hi (l' := kset l m v) (fun y hy => by
    obtain ⟨y', hy', he⟩ := kset_keys l m v y hy
    rw [← he]; exact hl y' hy')
  have hb' : w.heap[ρ.s i]? = some (.map (kents l) l.length) := e2
  have hfind : (kents l).findIdx? (fun e => (e.born : Int) == (m : Int)) = some m := by
    have := kentF_born l m 0 (by omega)
    rw [Nat.zero_add] at this
    simpa [kents] using this
  have hmod : (kents l).modify m (fun e => { e with val := v }) = kents (kset l m v) := by
    apply Array.ext'
    rw [Array.toList_modify]
    exact kentF_modify l m 0 v
  have hrun : (Instr.entryStore t (.map (some (ρ.s i))) (.int .i64 (m : Int)) v).run P w = .ok () (World.putO w (ρ.s i) (kobj (kset l m v))) := by
    simp [Instr.entryStore, MapKept.run_getObj_map hb', asInt, asIntOf, hfind, MapKept.run_setObj_map _ hb', hmod]
    simp [World.putO, kobj, kset_length]
  exact Oc.skip (w' := World.putO w (ρ.s i) (kobj (kset l m v))) (by simp [execOp, ho, h1, hx, h3, hrun]) ⟨ρ, Env.agree.refl S ρ, rfl, trivial, e3⟩
end
end Go.Sx
