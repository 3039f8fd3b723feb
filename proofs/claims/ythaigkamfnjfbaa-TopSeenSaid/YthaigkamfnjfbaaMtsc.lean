/-
  Laws of the executor, and walks of functions (part 3). The conditions stand with each law.
-/
import Derived.Laws.OwnMore
import Derived.Test.YthaigkamfnjfbaaMtsb
namespace Go.Sx
def hOf : Value → Option Addr × Nat × Nat
  | .slice p l c => (p, l, c)
  | _ => (none, 0, 0)
/-- The environment in which number i stands for the slice v. -/
def Env.bindV (ρ : Env) (i : Nat) (v : Value) : Env where
  s j := if j = i then v.ownBlock.getD 0 else ρ.s j
  o j := if j = i then 0 else ρ.o j
  h j := if j = i then hOf v else ρ.h j
theorem Env.bindV_agree (ρ : Env) {i : Nat} (v : Value) {S : Nat → Prop} (hi : ¬ S i) : Env.agree S ρ (ρ.bindV i v) := fun j hj => by
  have : j ≠ i := fun e => hi (e ▸ hj)
  exact ⟨by simp [Env.bindV, this], by simp [Env.bindV, this], by simp [Env.bindV, this]⟩
theorem conc_bindV {w : World} {b e n : Nat} {t : TypeId} {v : Value} {xs : List Value} (h : w.ownsRow b t e v n xs) (ρ : Env) (i : Nat) : (SV.opq i).conc (ρ.bindV i v) = v := by
  rcases h.2 with ⟨rfl, _⟩ | ⟨g, cap, cur, rfl, _⟩ <;> simp [SV.conc, Env.bindV, hOf]
theorem ownsRow_mono {w : World} {b b' e n : Nat} {t : TypeId} {v : Value} {xs : List Value} (h : w.ownsRow b t e v n xs) (hb : b' ≤ b) : w.ownsRow b' t e v n xs := by
  refine ⟨h.1, ?_⟩
  rcases h.2 with h0 | ⟨g, cap, cur, h1, h2, h3⟩
  · exact .inl h0
  · exact .inr ⟨g, cap, cur, h1, by omega, h3⟩
section
variable {w0 w w' : World} {L : List (Nat × Nat)} {ρ : Env} {M : Mem} {S : Nat → Prop}
theorem WI.owns (hW : WI w0 L ρ M S w) {i e m : Nat} {xs : List SV} {t : TypeId} (hi : M i = some (.row e m xs t)) (he : 0 < e) : w.ownsRow 0 t e ((SV.opq i).conc ρ) m (SV.concs ρ xs) := by
  obtain ⟨_, _, h0, hl, hh⟩ := hW.mem i _ hi
  refine ⟨by rw [concs_length, hl], ?_⟩
  rcases hh with ⟨h1, h2⟩ | ⟨cap, sp, h1, ⟨h2, h3⟩, h4⟩
  · left; simp [SV.conc, h1, h2]
  · right
    refine ⟨ρ.s i, cap, (SV.concs ρ xs ++ sp).toArray, by simp [SV.conc, h1], Nat.zero_le _, h4, ?_, by simp only [maxLen]; omega, by simp [concs_length, hl, h2], ?_⟩
    · refine Nat.le_of_mul_le_mul_right (c := e) ?_ he
      omega
    · rw [← hl, ← concs_length ρ xs]; simp
/-- A row that is told at a return of a call. -/
theorem WI.ownsOut (hW : WI w0 L ρ M S w) {i e m : Nat} {xs : List SV} {t : TypeId} (hi : M i = some (.row e m xs t)) (he : 0 < e) (hL : ∀ p ∈ L, (SObj.row e m xs t).occ ρ i → p.2 ≠ ρ.s i) : w.ownsRow w0.heap.size t e ((SV.opq i).conc ρ) m (SV.concs ρ xs) := by
  have h := hW.owns hi he
  refine ⟨h.1, ?_⟩
  rcases h.2 with h2 | ⟨g, cap, cur, h1, h2, h3⟩
  · exact .inl h2
  · refine .inr ⟨g, cap, cur, h1, ?_, h3⟩
    obtain ⟨_, _, h0, hl, hh⟩ := hW.mem i _ hi
    rcases hh with ⟨h4, _⟩ | ⟨cap', sp, h4, _⟩
    · simp [SV.conc, h4] at h1
    · simp only [SV.conc, h4, Value.slice.injEq, Option.some.injEq, Addr.mk.injEq, and_true, true_and] at h1
      rw [← h1.1]
      have hocc : (SObj.row e m xs t).occ ρ i := by simp [SObj.occ, h4]
      rcases hW.new i _ hi hocc with ⟨p, hp, hpe⟩ | hge
      · exact absurd hpe (hL p hp hocc)
      · exact hge
theorem WI.ownsNew (hW : WI w0 [] ρ M S w) {i e m : Nat} {xs : List SV} {t : TypeId} (hi : M i = some (.row e m xs t)) (he : 0 < e) : w.ownsRow w0.heap.size t e ((SV.opq i).conc ρ) m (SV.concs ρ xs) :=
  hW.ownsOut hi he (fun p hp => by cases hp)
theorem WI.rowAs (hW : WI w0 L ρ M S w) {M1 : Mem} (hsub : ∀ k o, M1 k = some o → M k = some o) {i : Nat} (hi : ¬ S i) {v : Value} {row : Option Nat} {e n : Nat} {xs : List SV} {t : TypeId}
    (hg : w.grownBy w' row) (hrow : ∀ b, row = some b → (∀ k o, M1 k = some o → o.occ ρ k → ρ.s k ≠ b) ∧ ((∃ p ∈ L, p.2 = b) ∨ w0.heap.size ≤ b))
    (hv : ∀ g, v.ownBlock = some g → (∀ k o, M1 k = some o → o.occ ρ k → ρ.s k ≠ g) ∧ ((∃ p ∈ L, p.2 = g) ∨ w0.heap.size ≤ g)) (ho : w'.ownsRow 0 t e v n (SV.concs ρ xs)) (hs : SV.scs S xs) :
    WI w0 L (ρ.bindV i v) (upd M1 i (.row e n xs t)) (fun j => S j ∨ j = i) w' ∧ Env.agree S ρ (ρ.bindV i v) := by
  have ha : Env.agree S ρ (ρ.bindV i v) := Env.bindV_agree ρ v hi
  have up : ∀ j, S j → S j ∨ j = i := fun _ => .inl
  have hnew := fun g hgv => (hv g hgv).1
  have hnew2 := fun g hgv => (hv g hgv).2
  have hocc : ∀ {o : SObj}, o = .row e n xs t → o.occ (ρ.bindV i v) i → ∃ g, v.ownBlock = some g ∧ (ρ.bindV i v).s i = g := by
    rintro o rfl hc
    have hc : ((ρ.bindV i v).h i).1 ≠ none := hc
    rcases ho.2 with ⟨rfl, _⟩ | ⟨g, cap, cur, rfl, _⟩
    · simp [Env.bindV, hOf] at hc
    · exact ⟨g, rfl, by simp [Env.bindV, Value.ownBlock]⟩
  refine ⟨⟨?_, ?_, ?_, ?_, ?_, Nat.le_trans hW.size hg.size, hg.os.trans hW.os, hg.tape.trans hW.tape, hg.output.trans hW.output⟩, ha⟩
  · intro j o hj
    by_cases e' : i = j
    · subst e'
      rw [upd_same] at hj
      obtain rfl := Option.some.inj hj
      refine ⟨.inr rfl, SV.scs_mono up xs hs, by simp [Env.bindV], by have := ho.1; rwa [concs_length] at this, ?_⟩
      rw [concs_agree ha xs hs]
      rcases ho.2 with ⟨rfl, h2⟩ | ⟨g, cap, cur, rfl, _, h3, h4, h5, h6, h7⟩
      · exact .inl ⟨by simp [Env.bindV, hOf], h2⟩
      · refine .inr ⟨cap, cur.toList.drop (n * e), by simp [Env.bindV, hOf, Value.ownBlock], ⟨?_, by simp only [maxLen] at h5; omega⟩, ?_⟩
        · have : n * e ≤ cap * e := Nat.mul_le_mul_right _ h4
          simp [h6]; omega
        · rw [← h7, List.take_append_drop]
          simpa [Env.bindV, Value.ownBlock] using h3
    · rw [upd_other _ _ e'] at hj
      obtain ⟨h1, h2, h3⟩ := hW.mem j o (hsub j o hj)
      refine ⟨.inl h1, SObj.sc_mono up h2, SObj.holds_agree ha h1 h2 (fun hc => hg.block _ (SObj.holds_lt h3 hc) (fun he => ?_)) h3⟩
      exact (hrow _ he.symm).1 j o hj hc rfl
  · intro j k oj ok hj hk hne cj ck
    by_cases e1 : i = j
    · subst e1
      rw [upd_same] at hj
      rw [upd_other _ _ hne] at hk
      obtain ⟨g, hg1, hg2⟩ := hocc (Option.some.inj hj).symm cj
      have h1 := (hW.mem k ok (hsub k ok hk)).1
      rw [hg2, (ha k h1).1]
      exact fun h => hnew g hg1 k ok hk ((SObj.occ_agree ha h1).1 ck) h.symm
    · rw [upd_other _ _ e1] at hj
      have h1 := (hW.mem j oj (hsub j oj hj)).1
      by_cases e2 : i = k
      · subst e2
        rw [upd_same] at hk
        obtain ⟨g, hg1, hg2⟩ := hocc (Option.some.inj hk).symm ck
        rw [hg2, (ha j h1).1]
        exact hnew g hg1 j oj hj ((SObj.occ_agree ha h1).1 cj)
      · rw [upd_other _ _ e2] at hk
        have h2 := (hW.mem k ok (hsub k ok hk)).1
        rw [(ha j h1).1, (ha k h2).1]
        exact hW.dist j k oj ok (hsub j oj hj) (hsub k ok hk) hne ((SObj.occ_agree ha h1).1 cj) ((SObj.occ_agree ha h2).1 ck)
  · intro j o hj cj
    by_cases e1 : i = j
    · subst e1
      rw [upd_same] at hj
      obtain ⟨g, hg1, hg2⟩ := hocc (Option.some.inj hj).symm cj
      rw [hg2]
      exact hnew2 g hg1
    · rw [upd_other _ _ e1] at hj
      have h1 := (hW.mem j o (hsub j o hj)).1
      rw [(ha j h1).1]
      exact hW.new j o (hsub j o hj) ((SObj.occ_agree ha h1).1 cj)
  · intro p hp
    obtain ⟨h1, h2⟩ := hW.lid p hp
    exact ⟨.inl h1, by rw [(ha p.1 h1).1, h2]⟩
  · intro k hk hL
    rw [hg.block k (by have := hW.size; omega) (fun he => ?_)]
    · exact hW.keep k hk hL
    · rcases (hrow k he.symm).2 with ⟨p, hp, hpe⟩ | hge
      · exact hL p hp hpe
      · omega
theorem WI.rowTo (hW : WI w0 L ρ M S w) {M1 : Mem} (hsub : ∀ k o, M1 k = some o → M k = some o) {i : Nat} (hi : ¬ S i) {v : Value} {row : Option Nat} {e n : Nat} {xs : List SV} {t : TypeId}
    (hg : w.grownBy w' row) (hrow : ∀ b, row = some b → (∀ k o, M1 k = some o → o.occ ρ k → ρ.s k ≠ b) ∧ ((∃ p ∈ L, p.2 = b) ∨ w0.heap.size ≤ b))
    (hv : ∀ g, v.ownBlock = some g → row = some g ∨ w.heap.size ≤ g) (ho : w'.ownsRow 0 t e v n (SV.concs ρ xs)) (hs : SV.scs S xs) :
    WI w0 L (ρ.bindV i v) (upd M1 i (.row e n xs t)) (fun j => S j ∨ j = i) w' ∧ Env.agree S ρ (ρ.bindV i v) := by
  refine hW.rowAs hsub hi hg hrow (fun g hgv => ?_) ho hs
  rcases hv g hgv with h | h
  · exact hrow g h
  · refine ⟨fun k o hk ck => ?_, .inr (by have := hW.size; omega)⟩
    have := SObj.holds_lt (hW.mem k o (hsub k o hk)).2.2 ck
    omega
def Env.bindW (ρ : Env) (i b off : Nat) (h : Option Addr × Nat × Nat) : Env where
  s j := if j = i then b else ρ.s j
  o j := if j = i then off else ρ.o j
  h j := if j = i then h else ρ.h j
theorem Env.bindW_agree (ρ : Env) {i : Nat} (b off : Nat) (h : Option Addr × Nat × Nat) {S : Nat → Prop} (hi : ¬ S i) : Env.agree S ρ (ρ.bindW i b off h) := fun j hj => by
  have : j ≠ i := fun e => hi (e ▸ hj)
  exact ⟨by simp [Env.bindW, this], by simp [Env.bindW, this], by simp [Env.bindW, this]⟩
theorem Env.bindW_self (ρ : Env) (i b off : Nat) (h : Option Addr × Nat × Nat) : (ρ.bindW i b off h).s i = b ∧ (ρ.bindW i b off h).o i = off ∧ (ρ.bindW i b off h).h i = h := by simp [Env.bindW]
theorem WI.addR (hW : WI w0 L ρ M S w) {i : Nat} {ρ' : Env} (ha : Env.agree S ρ ρ') {o : SObj} (hsc : o.sc S) (hocc : ∀ ρ'' j, ¬ o.occ ρ'' j) (hh : o.holds w0 L ρ' i w) :
    WI w0 L ρ' (upd M i o) (fun j => S j ∨ j = i) w where
  mem j oj hj := by
    by_cases ij : i = j
    · subst ij
      rw [upd_same] at hj
      obtain rfl := Option.some.inj hj
      exact ⟨.inr rfl, SObj.sc_mono (fun _ => .inl) hsc, hh⟩
    · rw [upd_other _ _ ij] at hj
      obtain ⟨h1, h2, h3⟩ := hW.mem j oj hj
      exact ⟨.inl h1, SObj.sc_mono (fun _ => .inl) h2, SObj.holds_agree ha h1 h2 (fun _ => rfl) h3⟩
  dist j k oj ok hj hk hne cj ck := by
    by_cases ij : i = j
    · subst ij
      rw [upd_same] at hj
      obtain rfl := Option.some.inj hj
      exact absurd cj (hocc _ _)
    · by_cases ik : i = k
      · subst ik
        rw [upd_same] at hk
        obtain rfl := Option.some.inj hk
        exact absurd ck (hocc _ _)
      · rw [upd_other _ _ ij] at hj
        rw [upd_other _ _ ik] at hk
        have h1 := (hW.mem j oj hj).1
        have h2 := (hW.mem k ok hk).1
        rw [(ha j h1).1, (ha k h2).1]
        exact hW.dist j k oj ok hj hk hne ((SObj.occ_agree ha h1).1 cj) ((SObj.occ_agree ha h2).1 ck)
  new j oj hj cj := by
    by_cases ij : i = j
    · subst ij
      rw [upd_same] at hj
      obtain rfl := Option.some.inj hj
      exact absurd cj (hocc _ _)
    · rw [upd_other _ _ ij] at hj
      have h1 := (hW.mem j oj hj).1
      rw [(ha j h1).1]
      exact hW.new j oj hj ((SObj.occ_agree ha h1).1 cj)
  lid p hp := ⟨.inl (hW.lid p hp).1, by rw [(ha _ (hW.lid p hp).1).1]; exact (hW.lid p hp).2⟩
  keep := hW.keep
  size := hW.size
  os := hW.os
  tape := hW.tape
  output := hW.output
end
end Go.Sx
