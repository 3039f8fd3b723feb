/-
  A small symbolic executor over the model (part H): a region whose order is open: one run in the order of the text serves every order that its edges allow, where operations that no edge orders do not touch what the other one touches.
  No condition: these are definitions and laws that hold of every program.
-/
import Derived.Test.YtoipnojibkjjnaaSxG
import Derived.Orders
namespace Go.Sx

/-! ### What an operation reads and writes -/
structure Tr where
  i : Nat
  dst : Option Tmp
  reads : List Nat
  foot : List Nat
  wr : List Nat

def opndT : Operand → List Nat
  | .tmp t => [t]
  | _ => []
def guardT (ops : List Oper) (o : Oper) : List Nat :=
  match o.guard with
  | some (j, _) => match get ops j with
    | some oj => match oj.dst with
      | some t => [t]
      | none => []
    | none => []
  | none => []
def readsOf (ops : List Oper) (o : Oper) : List Nat := o.op.operands.toList.flatMap opndT ++ guardT ops o
def blkOf : SV → List Nat
  | .ptr i _ => [i]
  | .opq i => [i]
  | _ => []
def footOf (T : Tm) (op : Op) : List Nat := op.operands.toList.flatMap fun x => match ev T x with
  | some v => blkOf v
  | none => []
def wrOf (e : Eff) (n : Nat) : List Nat :=
  match e with
  | .new _ _ => [n]
  | .wr i _ => [i]
  | _ => []

/-- The blocks that a call looks at. -/
def readB : Eff → List Nat
  | .call _ _ bs _ => bs
  | _ => []

section congr
variable {P : Program}
variable {tab : Tab} {pf : PF} {T T' : Tm} {M M' : Mem} {n : Nat}
theorem ev_congr {x : Operand} (h : ∀ t ∈ opndT x, T' t = T t) : ev T' x = ev T x := by
  cases x with
  | tmp t => exact h t (by simp [opndT])
  | _ => rfl
theorem evs_congr : ∀ {l : List Operand}, (∀ x ∈ l, ∀ t ∈ opndT x, T' t = T t) → evs T' l = evs T l
  | [], _ => rfl
  | x :: l, h => by
    unfold evs
    rw [ev_congr (h x (by simp)), evs_congr (fun y hy => h y (by simp [hy]))]
theorem evParts_congr : ∀ {l : List (Nat × Operand)}, (∀ x ∈ l, ∀ t ∈ opndT x.2, T' t = T t) → evParts T' l = evParts T l
  | [], _ => rfl
  | (i, x) :: l, h => by
    unfold evParts
    rw [ev_congr (h (i, x) (by simp)), evParts_congr (fun y hy => h y (by simp [hy]))]

theorem opF_congr0 {op : Op} (hnc : ∀ f args ts, op ≠ .call { callee := .value f, args := args, argTypes := ts }) (hT : ∀ x ∈ op.operands.toList, ∀ t ∈ opndT x, T' t = T t) (hM : ∀ b ∈ footOf T op, M' b = M b) : opF tab pf T' M' n op = opF tab pf T M n op := by
  have hev : ∀ x ∈ op.operands.toList, ev T' x = ev T x := fun x hx => ev_congr (hT x hx)
  have hblk : ∀ x ∈ op.operands.toList, ∀ v, ev T x = some v → ∀ b ∈ blkOf v, M' b = M b := fun x hx v hv b hb => hM b (by
    unfold footOf; rw [List.mem_flatMap]; exact ⟨x, hx, by simp only [hv]; exact hb⟩)
  cases op <;> try rfl
  case move x => simp only [opF, opMove, hev x (by simp [Op.operands])]
  case assign x => simp only [opF, opMove, hev x (by simp [Op.operands])]
  case pick c x y => simp only [opF, opPick, opMove, hev c (by simp [Op.operands]), hev x (by simp [Op.operands]), hev y (by simp [Op.operands])]
  case box t x => simp only [opF, opBox, hev x (by simp [Op.operands])]
  case build t parts =>
    have := evParts_congr (T := T) (T' := T') (l := parts.toList) (fun p hp => hT p.2 (by simp [Op.operands]; exact ⟨p.1, by simpa using hp⟩))
    simp only [opF, opBuild, this]
  case buildSlice t len parts =>
    have := evParts_congr (T := T) (T' := T') (l := parts.toList) (fun p hp => hT p.2 (by simp [Op.operands]; exact ⟨p.1, by simpa using hp⟩))
    simp only [opF, opBuildSlice, this]
  case makeSlice t x y => simp only [opF, opMake, hev x (by simp [Op.operands]), hev y (by simp [Op.operands])]
  case load t x =>
    have hx := hblk x (by simp [Op.operands])
    simp only [opF, opLoad, hev x (by simp [Op.operands])]
    split
    · split
      · rename_i i off he
        rw [hx _ he i (by simp [blkOf])]
      · rfl
    · rfl
  case store t x y =>
    have hx := hblk x (by simp [Op.operands])
    simp only [opF, opStore, hev x (by simp [Op.operands]), hev y (by simp [Op.operands])]
    split
    · split
      · rename_i i off he
        rw [hx _ he i (by simp [blkOf])]
      · rfl
    · rfl
  case nilCheck x => simp only [opF, opNil, hev x (by simp [Op.operands])]
  case binOp b t x y t2 => simp only [opF, opBin, hev x (by simp [Op.operands]), hev y (by simp [Op.operands])]
  case unOp u t x => simp only [opF, opUn, hev x (by simp [Op.operands])]
  case convert s d x => simp only [opF, opConv, hev x (by simp [Op.operands])]
  case makeFunc f first caps =>
    have := evs_congr (T := T) (T' := T') (l := caps.toList) (fun x hx => hT x (by simp [Op.operands]; exact .inr (by simpa using hx)))
    simp only [opF, opMakeFunc, this]
  case fieldAddr s x f => simp only [opF, opFieldAddr, hev x (by simp [Op.operands])]
  case field s x f => simp only [opF, opField, hev x (by simp [Op.operands])]
  case slice t x lo hi mx =>
    have hO : ∀ y : Option Operand, (∀ z ∈ y, z ∈ (Op.slice t x lo hi mx).operands.toList) → evO T' y = evO T y := by
      intro y hy
      cases y with
      | none => rfl
      | some z => simp only [evO, hev z (hy z rfl)]
    have h2 := hO lo (fun z hz => by cases hz; simp [Op.operands])
    have h3 := hO hi (fun z hz => by cases hz; simp [Op.operands])
    cases mx with
    | some _ => rfl
    | none => simp only [opF, opSlice, hev x (by simp [Op.operands]), h2, h3]
  case extract x i => simp only [opF, opExtract, hev x (by simp [Op.operands])]
  case indexAddr t x i =>
    have hx := hblk x (by simp [Op.operands])
    simp only [opF, opIndexAddr, hev x (by simp [Op.operands]), hev i (by simp [Op.operands])]
    split
    · split
      · split
        · split
          · rfl
          · rename_i b he
            rw [hx _ he b (by simp [blkOf])]
          · rfl
        · rfl
        · rfl
      · rfl
    · rfl
  case call c =>
    obtain ⟨callee, args, ts⟩ := c
    cases callee with
    | invoke r m => rfl
    | value f => exact absurd rfl (hnc f args ts)
    | builtin b =>
      have ha : ∀ x ∈ args.toList, x ∈ (Op.call { callee := .builtin b, args := args, argTypes := ts }).operands.toList := fun x hx => by simp [Op.operands, Call.operands]; simpa using hx
      simp only [opF]
      split
      · rename_i x hx
        split
        · split
          · rename_i t r ht
            have he := hev x (ha x (by rw [hx]; simp))
            have hb := hblk x (ha x (by rw [hx]; simp))
            simp only [opLen, he]
            split
            · split
              · split
                · rfl
                · rename_i b' he'
                  rw [hb _ he' b' (by simp [blkOf])]
                · rfl
                · rfl
              · rfl
              · rfl
              · rfl
            · rfl
          · rfl
        · rfl
      · rename_i x y hx
        have h1 := hev x (ha x (by rw [hx]; simp))
        have h2 := hev y (ha y (by rw [hx]; simp))
        split
        · simp only [opMin, h1, h2]
        · simp only [opMin, h1, h2]
        · rfl
      · rfl
theorem opF_congr (hF : PF.oks P pf) {op : Op} {e : Eff} (h : opF tab pf T M n op = some e) (hT : ∀ x ∈ op.operands.toList, ∀ t ∈ opndT x, T' t = T t) (hM : ∀ b ∈ footOf T op, M' b = M b) (hB : ∀ b ∈ readB e, M' b = M b) : opF tab pf T' M' n op = some e := by
  by_cases hc : ∃ f args ts, op = .call { callee := .value f, args := args, argTypes := ts }
  · obtain ⟨f, args, ts, rfl⟩ := hc
    have h1 := ev_congr (T := T) (T' := T') (x := f) (hT f (by simp [Op.operands, Call.operands]))
    have h2 := evs_congr (T := T) (T' := T') (l := args.toList) (fun x hx => hT x (by simp [Op.operands, Call.operands]; exact .inr (by simpa using hx)))
    simp only [opF, opCall, h1, h2] at h ⊢
    cases e1 : ev T f with
    | none => rw [e1] at h; cases h
    | some fv =>
      simp only [e1] at h ⊢
      cases e2 : calleeOf fv with
      | none => rw [e2] at h; cases h
      | some gc =>
        obtain ⟨g, caps⟩ := gc
        simp only [e2] at h ⊢
        cases e3 : look pf g with
        | none => rw [e3] at h; cases h
        | some F =>
          simp only [e3] at h ⊢
          cases e4 : evs T args.toList with
          | none => rw [e4] at h; cases h
          | some vs =>
            simp only [e4] at h ⊢
            cases e5 : F M (vs ++ caps) with
            | none => rw [e5] at h; cases h
            | some bv =>
              obtain ⟨bs, v⟩ := bv
              simp only [e5] at h
              obtain rfl := Option.some.inj h
              rw [(PF.ok_look hF e3).cong M M' _ bs v e5 hB]
  · rw [opF_congr0 (fun f args ts he => hc ⟨f, args, ts, he⟩) hT hM]; exact h
end congr
end Go.Sx
