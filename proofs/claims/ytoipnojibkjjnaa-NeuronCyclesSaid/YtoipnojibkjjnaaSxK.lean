/-
  A small symbolic executor over the model (part K): the run of a state, as far as it goes by itself.
  No condition: these are definitions and laws that hold of every program.
-/
import Derived.Test.YtoipnojibkjjnaaSxJ
namespace Go.Sx
theorem putK_mono {T : List (Nat × SV)} {d : Option Tmp} {v : SV} {K K' : List (Nat × SV) → Prop} (hk : ∀ T, K T → K' T) (h : putK T d v K) : putK T d v K' := by rw [putK_eq] at *; exact hk _ h
theorem wantK_mono {ops : List Oper} {T : Tm} {g : Option (Nat × Bool)} {stop : Prop} {K K' : Bool → Prop} (hk : ∀ b, K b → K' b) (h : wantK ops T g stop K) : wantK ops T g stop K' := by
  unfold wantK at *
  repeat' (split at h)
  all_goals first
    | exact hk _ h
    | exact h
theorem drawK_mono {c : Cx} {ops : List Oper} {n0 : Nat} {stop : Prop} {K K' : List (Nat × SV) → List (Nat × SObj) → List Tr → Prop} (hk : ∀ T M l, K T M l → K' T M l) : ∀ (is : List Nat) (T : List (Nat × SV)) (M : List (Nat × SObj)) (acc : List Tr), drawK c ops n0 stop K is T M acc → drawK c ops n0 stop K' is T M acc
  | [], T, M, acc, h => hk _ _ _ h
  | i :: r, T, M, acc, h => by
    unfold drawK at h ⊢
    split at h
    case h_2 => exact h
    split at h
    case h_2 => exact h
    refine wantK_mono (fun b hb => ?_) h
    cases b with
    | false => exact putK_mono (fun T' h => drawK_mono hk r T' _ _ h) hb
    | true =>
      simp only at hb ⊢
      split at hb
      case h_2 => exact hb
      rename_i e _
      cases e with
      | val ob v =>
        cases ob with
        | none => exact putK_mono (fun T' h => drawK_mono hk r T' _ _ h) hb
        | some p => exact ⟨hb.1, putK_mono (fun T' h => drawK_mono hk r T' _ _ h) hb.2⟩
      | new v ob => simp only [forceO_eq] at hb ⊢; exact putK_mono (fun T' h => drawK_mono hk r T' _ _ h) hb
      | wr j ob => simp only [forceO_eq] at hb ⊢; exact putK_mono (fun T' h => drawK_mono hk r T' _ _ h) hb
      | call g args bs v => exact putK_mono (fun T' h => drawK_mono hk r T' _ _ h) hb

theorem Run.beginRound {c : Cx} (hc : c.ok) {j l : Nat} (hrd : c.rd = some (j, l)) {T : List (Nat × SV)} {M : List (Nat × SObj)} {n : Nat} {D : List Deferred} {k : List Item} {R : Ending → World → Prop} {r : Loop} (hj : look M j = some (.obj (.loop r))) (hr : r.state = .ready)
    (h : Run c ⟨T, (j, .obj (.loop { r with state := .busy })) :: M, n, D, k⟩ R) : Run c ⟨T, M, n, D, .beginRound :: k⟩ R := by
  refine ⟨fun ρ a w hi => ?_⟩
  have hs : ρ.s j = l := (hi.wi.lid (j, l) (hc.rdL _ hrd)).2
  have hrr : c.rr = some l := by simp [Cx.rr, hrd]
  have hW := hi.wi.putO (o' := .loop { r with state := .busy }) hj (fun _ _ _ => by simp)
  obtain ⟨_, _, _, h3⟩ := hi.wi.mem j _ hj
  rw [hs] at hW h3
  rw [hrr]
  refine TW.beginRound h3 hr ?_
  rw [← hrr]
  exact h.go ρ a _ ⟨hi.sz, hi.tm, hi.df, by rw [look_upd]; exact hW⟩
theorem Run.endRound {c : Cx} (hc : c.ok) {j l : Nat} (hrd : c.rd = some (j, l)) {T : List (Nat × SV)} {M : List (Nat × SObj)} {n : Nat} {D : List Deferred} {R : Ending → World → Prop} {r : Loop} (hj : look M j = some (.obj (.loop r)))
    (h : RetOk c ((j, .obj (.loop { r with state := .ready, pending := none })) :: M) n (.v (.bool true)) R) : Run c ⟨T, M, n, D, []⟩ R := by
  refine ⟨fun ρ a w hi => ?_⟩
  have hs : ρ.s j = l := (hi.wi.lid (j, l) (hc.rdL _ hrd)).2
  have hrr : c.rr = some l := by simp [Cx.rr, hrd]
  have hW := hi.wi.putO (o' := .loop { r with state := .ready, pending := none }) hj (fun _ _ _ => by simp)
  obtain ⟨_, _, _, h3⟩ := hi.wi.mem j _ hj
  rw [hs] at hW h3
  rw [hrr]
  exact TW.endRound h3 (h.h ρ _ (by rw [look_upd]; exact hW) trivial)

/-- The run of a state, as far as it goes by itself: what is left to show. -/
def wpK (c : Cx) (R : Ending → World → Prop) : Nat → St → Prop
  | 0, s => Run c s R
  | m + 1, ⟨T, M, n, D, todo⟩ => match todo with
    | [] => match c.rd with
      | none => match D with
        | [] => match resS c.tab (look T) (look M) c.fn.results.toList with
          | some v => RetOk c M n v R
          | none => Run c ⟨T, M, n, [], []⟩ R
        | D => Run c ⟨T, M, n, D, []⟩ R
      | some (j, _) => match look M j with
        | some (.obj (.loop r)) => RetOk c ((j, .obj (.loop { r with state := .ready, pending := none })) :: M) n (.v (.bool true)) R
        | _ => Run c ⟨T, M, n, D, []⟩ R
    | it :: k => match it with
      | .code cd => match cd with
        | .skip => wpK c R m ⟨T, M, n, D, k⟩
        | .seq x y => wpK c R m ⟨T, M, n, D, .code x :: .code y :: k⟩
        | .block id x => wpK c R m ⟨T, M, n, D, .code x :: .inBlock id :: k⟩
        | .scope x => wpK c R m ⟨T, M, n, D, .code x :: .inScope x :: k⟩
        | .label _ => wpK c R m ⟨T, M, n, D, k⟩
        | .cond x y z => match ev (look T) x with
          | some (.v (.bool b)) => match b with
            | true => wpK c R m ⟨T, M, n, D, .code y :: k⟩
            | false => wpK c R m ⟨T, M, n, D, .code z :: k⟩
          | _ => Run c ⟨T, M, n, D, .code (.cond x y z) :: k⟩ R
        | .region id ops draw => match draw with
          | false => wpK c R m ⟨T, M, n, D, .inRegion ops (upto 0 (lenL ops.toList)) :: k⟩
          | true => match look c.cuts id with
            | some x => drawK c ops.toList n (Run c ⟨T, M, n, D, .code (.region id ops true) :: k⟩ R) (fun T M l => chkB ops.toList x l = true ∧ wpK c R m ⟨T, M, n + lenL ops.toList, D, .inRegion ops (upto x (lenL ops.toList - x)) :: k⟩) (upto 0 x) T M []
            | none => Run c ⟨T, M, n, D, .code (.region id ops true) :: k⟩ R
        | .exit id => match exitTo id k with
          | some k' => wpK c R m ⟨T, M, n, D, k'⟩
          | none => Run c ⟨T, M, n, D, .code (.exit id) :: k⟩ R
        | .loop x => Run c ⟨T, M, n, D, .code x :: .inLoop x :: k⟩ R
        | .ret => match c.rd with
          | none => match D with
            | [] => match resS c.tab (look T) (look M) c.fn.results.toList with
              | some v => RetOk c M n v R
              | none => Run c ⟨T, M, n, [], .code .ret :: k⟩ R
            | D => Run c ⟨T, M, n, D, .code .ret :: k⟩ R
          | some _ => Run c ⟨T, M, n, D, .code .ret :: k⟩ R
        | x => Run c ⟨T, M, n, D, .code x :: k⟩ R
      | .inBlock _ => wpK c R m ⟨T, M, n, D, k⟩
      | .inScope _ => wpK c R m ⟨T, M, n, D, k⟩
      | .inLoop x => Run c ⟨T, M, n, D, .code x :: .inLoop x :: k⟩ R
      | .inRegion ops l => match l with
        | [] => wpK c R m ⟨T, M, n, D, k⟩
        | i :: r => match get ops.toList i with
          | some o => match okD c.fn.ntmps o.dst with
            | true => wantK ops.toList (look T) o.guard (Run c ⟨T, M, n, D, .inRegion ops (i :: r) :: k⟩ R) fun b => match b with
              | true => match opF c.tab c.pf (look T) (look M) n o.op with
                | some e => match e with
                  | .val ob v => match ob with
                    | some p => p ∧ putK T o.dst v fun T => wpK c R m ⟨T, M, n, D, .inRegion ops r :: k⟩
                    | none => putK T o.dst v fun T => wpK c R m ⟨T, M, n, D, .inRegion ops r :: k⟩
                  | .new v ob => forceO ob fun ob => putK T o.dst v fun T => wpK c R m ⟨T, (n, ob) :: M, n + 1, D, .inRegion ops r :: k⟩
                  | .wr j ob => forceO ob fun ob => putK T o.dst (.v undef) fun T => wpK c R m ⟨T, (j, ob) :: M, n, D, .inRegion ops r :: k⟩
                  | .call _ _ _ v => putK T o.dst v fun T => wpK c R m ⟨T, M, n, D, .inRegion ops r :: k⟩
                | none => Run c ⟨T, M, n, D, .inRegion ops (i :: r) :: k⟩ R
              | false => putK T o.dst (.v undef) fun T => wpK c R m ⟨T, M, n, D, .inRegion ops r :: k⟩
            | false => Run c ⟨T, M, n, D, .inRegion ops (i :: r) :: k⟩ R
          | none => Run c ⟨T, M, n, D, .inRegion ops (i :: r) :: k⟩ R
      | .beginRound => match c.rd with
        | some (j, _) => match look M j with
          | some (.obj (.loop r)) => match r.state with
            | .ready => wpK c R m ⟨T, (j, .obj (.loop { r with state := .busy })) :: M, n, D, k⟩
            | _ => Run c ⟨T, M, n, D, .beginRound :: k⟩ R
          | _ => Run c ⟨T, M, n, D, .beginRound :: k⟩ R
        | none => Run c ⟨T, M, n, D, .beginRound :: k⟩ R
      | x => Run c ⟨T, M, n, D, x :: k⟩ R

theorem Run.of_wpK {c : Cx} (hc : c.ok) {R : Ending → World → Prop} : ∀ (m : Nat) (s : St), wpK c R m s → Run c s R
  | 0, _, h => h
  | m + 1, ⟨T, M, n, D, todo⟩, h => by
    unfold wpK at h
    split at h
    · split at h
      · rename_i hrd
        split at h
        · split at h
          · rename_i v hv; exact Run.ret hc hrd (.inl rfl) hv h
          · exact h
        · exact h
      · rename_i j l hrd
        split at h
        · rename_i r hj; exact Run.endRound hc hrd hj h
        · exact h
    rename_i it k
    split at h
    · rename_i cd
      split at h
      · exact Run.step (fun ρ a w cs _ => fstep_skip) (Run.of_wpK hc m _ h)
      · exact Run.step (fun ρ a w cs _ => fstep_seq) (Run.of_wpK hc m _ h)
      · exact Run.step (fun ρ a w cs _ => fstep_block) (Run.of_wpK hc m _ h)
      · exact Run.step (fun ρ a w cs _ => fstep_scope) (Run.of_wpK hc m _ h)
      · exact Run.step (fun ρ a w cs _ => fstep_label) (Run.of_wpK hc m _ h)
      · split at h
        · rename_i b hb
          cases b with
          | true => exact Run.step (fun ρ a w cs hi => fstep_cond (t := true) (by have := (ev_ok hi.tm hb).1; simpa [SV.conc] using this)) (Run.of_wpK hc m _ h)
          | false => exact Run.step (fun ρ a w cs hi => fstep_cond (t := false) (by have := (ev_ok hi.tm hb).1; simpa [SV.conc] using this)) (Run.of_wpK hc m _ h)
        · exact h
      · split at h
        · refine Run.step (fun ρ a w cs _ => ?_) (Run.of_wpK hc m _ h)
          rename_i ops _
          rw [upto_range, lenL_eq, Array.length_toList]; exact fstep_region
        · split at h
          · exact Run.draw hc _ (drawK_mono (fun T M l hk => ⟨hk.1, Run.of_wpK hc m _ hk.2⟩) _ _ _ _ h)
          · exact h
      · split at h
        · rename_i k' hk
          exact Run.step (fun ρ a w cs _ => fstep_exit hk) (Run.of_wpK hc m _ h)
        · exact h
      · exact Run.step (fun ρ a w cs _ => fstep_loop) h
      · split at h
        · rename_i hrd
          split at h
          · split at h
            · rename_i v hv; exact Run.ret hc hrd (.inr ⟨_, rfl⟩) hv h
            · exact h
          · exact h
        · exact h
      · exact h
    · exact Run.step (fun ρ a w cs _ => fstep_inBlock) (Run.of_wpK hc m _ h)
    · exact Run.step (fun ρ a w cs _ => fstep_inScope) (Run.of_wpK hc m _ h)
    · exact Run.step (fun ρ a w cs _ => fstep_inLoop) h
    · split at h
      · exact Run.step (fun ρ a w cs _ => fstep_region_end) (Run.of_wpK hc m _ h)
      · rename_i ops l i r
        split at h
        case h_2 => exact h
        rename_i o ho
        split at h
        case h_2 => exact h
        rename_i hd
        rcases wantK_elim h with h | ⟨b, hb, h⟩
        · exact h
        cases b with
        | false =>
          simp only [putK_eq] at h
          exact Run.pass rfl ho hb hd (Run.of_wpK hc m _ h)
        | true =>
          simp only at h
          split at h
          case h_2 => exact h
          rename_i e he
          cases e with
          | val ob v =>
            cases ob with
            | none =>
              simp only [putK_eq] at h
              exact Run.op hc rfl ho hb hd he trivial (Run.of_wpK hc m _ h)
            | some p =>
              simp only [putK_eq] at h
              exact Run.op hc rfl ho hb hd he h.1 (Run.of_wpK hc m _ h.2)
          | new v ob =>
            simp only [putK_eq, forceO_eq] at h
            exact Run.op hc rfl ho hb hd he trivial (Run.of_wpK hc m _ h)
          | wr j ob =>
            simp only [putK_eq, forceO_eq] at h
            exact Run.op hc rfl ho hb hd he trivial (Run.of_wpK hc m _ h)
          | call g args bs v =>
            simp only [putK_eq] at h
            exact Run.op hc rfl ho hb hd he trivial (Run.of_wpK hc m _ h)
    · split at h
      · rename_i j l hrd
        split at h
        · rename_i r hj
          split at h
          · rename_i hr; exact Run.beginRound hc hrd hj hr (Run.of_wpK hc m _ h)
          · exact h
        · exact h
      · exact h
    · exact h

/-- The whole of a call that starts from plain values: what is left to show. -/
theorem Run.start0 {P : Program} {tab : Tab} {pf : PF} {cuts : List (Nat × Nat)} {f : FuncId} {fn : Func} {cd : Code} {w : World} {R : Ending → World → Prop} (hmix : P.follows .mixedOrders = true) (htab : Tab.oks P tab) (hpf : PF.oks P pf) (hf : P.funcs[f]? = some fn) (hb : fn.body = some cd) (args : List SV) (m : Nat)
    (hs : SV.scs (· < 0) args) (hN : Nat.ble (lenL args) fn.ntmps = true) (h : wpK ⟨P, tab, pf, f, fn, cuts, w, [], none⟩ R m ⟨numb 0 args, [], 0, [], [.code cd]⟩) : Calls P f (SV.concs env0 args).toArray w R :=
  Run.calls hf hb env0 args [] 0 hs hN (WI.start w env0) (Run.of_wpK ⟨htab, hpf, hf, hmix, fun _ h => by cases h⟩ m _ h)
end Go.Sx
