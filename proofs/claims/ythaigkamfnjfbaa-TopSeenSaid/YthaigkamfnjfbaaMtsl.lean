/-
  Laws of the executor, and walks of functions (part 12). The conditions stand with each law.
-/
import Derived.ProofKit
import Derived.OpenShut
import Derived.ChangeOld
import Derived.Below
import Derived.SizedLaws
import Derived.Lib.SmallJoins
import Derived.Test.YthaigkamfnjfbaaMtsk
namespace Go.Proofs.Ythaigkamfnjfbaa
open Go.Sx
open Go.ChangeShapes Go.WideShapes Go.ChangeAt Go.RowKit Go.Deep Go.Joins
set_option maxRecDepth 100000
theorem Ext.below {w w' : World} (h : Ext w w') : Below w.heap.size w w' := ⟨h.os, h.tape, h.output, h.size, h.keep⟩
theorem laidOut : laidOutB Try.prog = true := by kernel_rfl
section
variable {H : Type} {enc : TypeId × Value → H} {W : World} {base b0 : Nat} {spare : Nat → Bool} {held : Bool} {r : Reach} {v : Value} {d : DataW H} {pl : List MemPlace}
theorem el_rows {α : Type} {t e : TypeId} {k : Nat} (vals : α → List Value) (hvl : ∀ a, (vals a).length = k) (hk : 0 < k) (ht : Try.prog.underlying t = some (.slice e)) (hc : Try.prog.cellsOf e = k)
    (hel : ∀ {n : Nat} {cs : List Value} {y : DataW H × List MemPlace}, DataW.trod enc Try.prog W base spare held n e cs = some y → ∃ p : α, cs = vals p) {n : Nat} {cs : List Value} {y : DataW H × List MemPlace} (h : DataW.trod enc Try.prog W base spare held n t cs = some y) :
    ∃ (v : Value) (l : List α), cs = [v] ∧ RowsAt W v k l.length (l.flatMap vals) ∧ l.length ≤ maxLen := by
  rcases DataW.trod_slice ht h with ⟨h0, _⟩ | ⟨a, len, cap, elems, rest, m, _, rfl, _, hb, hl, hm, hlen, hel2, hsp, hns⟩
  · exact ⟨_, [], h0, ⟨by simp, none, 0, rfl, Nat.le_refl _, .inl rfl⟩, Nat.zero_le _⟩
  have each : ∀ i : Fin len, ∃ p : α, W.cells? base (a.add (i.1 * k)) k = some (vals p) := by
    intro i
    have h1 := hel2 i.1 i.2
    have h2 : elems[i.1]? = some (elems[i.1]'(by omega)) := List.getElem?_eq_getElem _
    rw [h2, hc, Option.bind_eq_some_iff] at h1
    obtain ⟨cs', h3, h4⟩ := h1
    obtain ⟨p, hp⟩ := hel h4
    exact ⟨p, by rw [h3, hp]⟩
  let l : List α := List.ofFn fun i : Fin len => Classical.choose (each i)
  have hll : l.length = len := List.length_ofFn
  have hlg : ∀ i (hi : i < len), W.cells? base (a.add (i * k)) k = some (vals (l[i]'(by rw [hll]; exact hi))) := fun i hi => by
    have := Classical.choose_spec (each ⟨i, hi⟩)
    simp only [l, List.getElem_ofFn]
    exact this
  refine ⟨_, l, rfl, ⟨flat_length hvl l, some a, cap, by rw [hll], by omega, ?_⟩, by omega⟩
  by_cases h0 : len = 0
  · exact .inl (by omega)
  obtain ⟨blk, off, spot⟩ := a
  have hc0 : W.cell? ⟨blk, off, spot⟩ ≠ none := by
    have h1 := (World.cells?_some (hlg 0 (by omega))).2.2 0 hk
    have h2 : (vals (l[0]'(by omega)))[0]? = some ((vals (l[0]'(by omega)))[0]'(by rw [hvl]; exact hk)) := List.getElem?_eq_getElem _
    rw [h2] at h1
    simp [Addr.add] at h1
    rw [h1]; simp
  have hspot : spot = none := by
    cases hcc : W.cell? ⟨blk, off, spot⟩ with
    | none => exact absurd hcc hc0
    | some x => exact World.cell?_spot hcc
  subst hspot
  have hcell : ∀ j x, (l.flatMap vals)[j]? = some x → W.cell? ⟨blk, off + j, none⟩ = some x := by
    intro j x hj
    have hjl : j < len * k := by
      have := (List.getElem?_eq_some_iff.1 hj).1
      rw [flat_length hvl, hll] at this
      exact this
    have hq : j / k < len := Nat.div_lt_of_lt_mul (by rw [Nat.mul_comm]; exact hjl)
    have hr := Nat.mod_lt j hk
    have hdm : j / k * k + j % k = j := by rw [Nat.mul_comm]; exact Nat.div_add_mod j k
    have h1 := (World.cells?_some (hlg (j / k) hq)).2.2 (j % k) hr
    have h2 := get_flat (f := vals) hvl (l := l) (i := j / k) (k := j % k) (by omega) hr
    rw [get_eq, get_eq, hdm, hj] at h2
    rw [← h2] at h1
    rw [addr_add, addr_add] at h1
    rw [show off + j = off + j / k * k + j % k by omega]
    exact h1
  refine .inr ⟨blk, off, rfl, ?_, hcell⟩
  have h2 : (l.flatMap vals)[0]? = some ((l.flatMap vals)[0]'(by rw [flat_length hvl, hll]; exact Nat.mul_pos (by omega) hk)) := List.getElem?_eq_getElem _
  have h3 := hcell 0 _ h2
  unfold World.cell? at h3
  rcases Nat.lt_or_ge blk W.heap.size with hlt | hge
  · exact hlt
  · simp [Array.getElem?_eq_none hge] at h3
/-- How long a slice's datum is. -/
def LenD (d : DataW H) (n : Nat) : Prop := (d = .nil ∧ n = 0) ∨ ∃ es sp, d = .slice es sp ∧ es.length = n
theorem el_rowsD {α : Type} {t e : TypeId} {k : Nat} (vals : α → List Value) (hvl : ∀ a, (vals a).length = k) (hk : 0 < k) (ht : Try.prog.underlying t = some (.slice e)) (hc : Try.prog.cellsOf e = k)
    (hel : ∀ {n : Nat} {cs : List Value} {y : DataW H × List MemPlace}, DataW.trod enc Try.prog W base spare held n e cs = some y → ∃ p : α, cs = vals p) {n : Nat} {cs : List Value} {y : DataW H × List MemPlace} (h : DataW.trod enc Try.prog W base spare held n t cs = some y) :
    ∃ (v : Value) (l : List α), cs = [v] ∧ RowsAt W v k l.length (l.flatMap vals) ∧ LenD y.1 l.length := by
  obtain ⟨v, l, h1, h2, _⟩ := el_rows vals hvl hk ht hc hel h
  refine ⟨v, l, h1, h2, ?_⟩
  obtain ⟨_, p, c, hv, _⟩ := h2
  rcases DataW.trod_slice ht h with ⟨g0, g1⟩ | ⟨a, len, cap, elems, rest, m, _, g0, g1, _, _, _, g2, _⟩
  · refine .inl ⟨by rw [g1], ?_⟩
    rw [h1, hv] at g0
    simp only [List.cons.injEq, Value.slice.injEq, and_true] at g0
    exact g0.2.1
  · refine .inr ⟨_, _, by rw [g1], ?_⟩
    rw [h1, hv] at g0
    simp only [List.cons.injEq, Value.slice.injEq, and_true] at g0
    rw [List.length_map, g2]
    exact g0.2.1.symm
theorem el_u8 {n : Nat} {cs : List Value} {y : DataW H × List MemPlace} (h : DataW.trod enc Try.prog W base spare held n 5 cs = some y) : ∃ p : { x : Int // 0 ≤ x ∧ x ≤ 255 }, cs = [u8v p.1] := by
  obtain ⟨x, e, _, w⟩ := DataW.trod_int Try.underlying5 h
  exact ⟨⟨x, bounds_u8 w⟩, e⟩
theorem el_pr {n : Nat} {cs : List Value} {y : DataW H × List MemPlace} (h : DataW.trod enc Try.prog W base spare held n 39 cs = some y) :
    ∃ p : { x : Int × Int // (0 ≤ x.1 ∧ x.1 ≤ 255) ∧ (0 ≤ x.2 ∧ x.2 ≤ 255) }, cs = prV p.1 := by
  obtain ⟨xs, m, _, _, hlen, hxl, hg⟩ := DataW.trod_array Try.underlying39 h
  have hC : Try.prog.cellsOf 39 = 2 := by kernel_rfl
  rw [hC] at hlen
  match cs, hlen with
  | [c0, c1], _ =>
    match xs, hxl with
    | [y0, y1], _ =>
      have h1 : Try.prog.cellsOf 5 = 1 := by kernel_rfl
      have g0 : DataW.trod enc Try.prog W base spare held m 5 [c0] = some y0 := by simpa [h1] using hg 0 (by decide)
      have g1 : DataW.trod enc Try.prog W base spare held m 5 [c1] = some y1 := by simpa [h1] using hg 1 (by decide)
      obtain ⟨n0, e0⟩ := el_u8 g0
      obtain ⟨n1, e1⟩ := el_u8 g1
      simp only [List.cons.injEq, and_true] at e0 e1
      subst e0 e1
      exact ⟨⟨(n0.1, n1.1), n0.2, n1.2⟩, rfl⟩
theorem open_film (hv : Value.okWide Try.prog W r b0 25 v) (h : DataW.Trod enc Try.prog W base spare held 25 v d pl) (hw : ∀ n ∈ DataW.weights Try.prog 25 d, n ≤ reachBytes) :
    ∃ (wd hg st tk ms : Int) (vL : Value) (lv : List Int) (vM : Value) (mk : List (Int × Int)), v = .agg #[u8v wd, u8v hg, u8v st, vL, u8v tk, vM, u8v ms] ∧ lv.length ≤ 281474976710656 ∧ mk.length ≤ 281474976710656 ∧ (∀ x ∈ lv, 0 ≤ x ∧ x ≤ 255) ∧ (∀ x ∈ mk, (0 ≤ x.1 ∧ x.1 ≤ 255) ∧ (0 ≤ x.2 ∧ x.2 ≤ 255)) ∧
      (0 ≤ wd ∧ wd ≤ 255) ∧ (0 ≤ hg ∧ hg ≤ 255) ∧ (0 ≤ st ∧ st ≤ 255) ∧ (0 ≤ tk ∧ tk ≤ 255) ∧ (0 ≤ ms ∧ ms ≤ 255) ∧ RowsAt W vL 1 lv.length (lv.map u8v) ∧ RowsAt W vM 2 mk.length (mk.flatMap prV) := by
  obtain ⟨cs, rfl, hsz⟩ := okWide_struct Try.underlying25 hv
  obtain ⟨q⟩ := cs
  obtain ⟨fuel, hf⟩ := h
  have hf : DataW.trod enc Try.prog W base spare held fuel 25 q = some (d, pl) := hf
  obtain ⟨xs, m, _, hx, hlen, hxl, hg⟩ := DataW.trod_struct Try.underlying25 hf
  have hC : Try.prog.cellsOf 25 = 7 := by kernel_rfl
  rw [hC] at hlen
  have hd : d = .agg (xs.map (·.1)) := congrArg Prod.fst hx
  clear hx hf hsz hv
  match q, hlen with
  | [c0, c1, c2, c3, c4, c5, c6], _ =>
    match xs, hxl with
    | [y0, y1, y2, y3, y4, y5, y6], _ =>
      have h1 : Try.prog.cellsOf 5 = 1 := by kernel_rfl
      have h2 : Try.prog.cellsOf 22 = 1 := by kernel_rfl
      have h3 : Try.prog.cellsOf 23 = 1 := by kernel_rfl
      have g0 : DataW.trod enc Try.prog W base spare held m 5 [c0] = some y0 := by simpa [h1] using hg 0 _ rfl
      have g1 : DataW.trod enc Try.prog W base spare held m 5 [c1] = some y1 := by simpa [h1] using hg 1 _ rfl
      have g2 : DataW.trod enc Try.prog W base spare held m 5 [c2] = some y2 := by simpa [h1] using hg 2 _ rfl
      have g3 : DataW.trod enc Try.prog W base spare held m 22 [c3] = some y3 := by simpa [h2] using hg 3 _ rfl
      have g4 : DataW.trod enc Try.prog W base spare held m 5 [c4] = some y4 := by simpa [h1] using hg 4 _ rfl
      have g5 : DataW.trod enc Try.prog W base spare held m 23 [c5] = some y5 := by simpa [h3] using hg 5 _ rfl
      have g6 : DataW.trod enc Try.prog W base spare held m 5 [c6] = some y6 := by simpa [h1] using hg 6 _ rfl
      obtain ⟨n0, e0⟩ := el_u8 g0
      obtain ⟨n1, e1⟩ := el_u8 g1
      obtain ⟨n2, e2⟩ := el_u8 g2
      obtain ⟨v3, l3, e3, r3, d3⟩ := el_rowsD (k := 1) (fun p : { x : Int // 0 ≤ x ∧ x ≤ 255 } => [u8v p.1]) (fun _ => rfl) (by decide) Try.underlying22 (by kernel_rfl) el_u8 g3
      obtain ⟨n4, e4⟩ := el_u8 g4
      obtain ⟨v5, l5, e5, r5, d5⟩ := el_rowsD (k := 2) (fun p : { x : Int × Int // (0 ≤ x.1 ∧ x.1 ≤ 255) ∧ (0 ≤ x.2 ∧ x.2 ≤ 255) } => prV p.1) (fun _ => rfl) (by decide) Try.underlying23 (by kernel_rfl) el_pr g5
      obtain ⟨n6, e6⟩ := el_u8 g6
      simp only [List.cons.injEq, and_true] at e0 e1 e2 e3 e4 e5 e6
      subst e0 e1 e2 e3 e4 e5 e6
      have f3 : ∀ l : List { x : Int // 0 ≤ x ∧ x ≤ 255 }, (l.map Subtype.val).map u8v = l.flatMap fun p => [u8v p.1] := fun l => by
        induction l with
        | nil => rfl
        | cons a l ih => rw [List.map_cons, List.map_cons, List.flatMap_cons, ih]; rfl
      have f5 : (l5.map Subtype.val).flatMap prV = l5.flatMap fun p => prV p.1 := by rw [List.flatMap_map]
      refine ⟨n0.1, n1.1, n2.1, n4.1, n6.1, _, l3.map Subtype.val, _, l5.map Subtype.val, rfl, ?_, ?_, ?_, ?_, n0.2, n1.2, n2.2, n4.2, n6.2, by rw [f3, List.length_map]; exact r3, by rw [f5, List.length_map]; exact r5⟩
      · rw [List.length_map]
        rcases d3 with ⟨_, h0⟩ | ⟨es, sp, he, hl⟩
        · rw [h0]; decide
        · have hb : Try.prog.bytesOf 5 = 1 := by kernel_rfl
          have hm : (es.length + sp.length) * Try.prog.bytesOf 5 ∈ DataW.weights Try.prog 25 d := by
            rw [hd]
            simp [DataW.weights, Try.underlying25, DataW.weightsEach, Try.underlying22, he]
          have := hw _ hm
          rw [hb, hl] at this
          unfold reachBytes at this
          omega
      · rw [List.length_map]
        rcases d5 with ⟨_, h0⟩ | ⟨es, sp, he, hl⟩
        · rw [h0]; decide
        · have hb : Try.prog.bytesOf 39 = 2 := by kernel_rfl
          have hm : (es.length + sp.length) * Try.prog.bytesOf 39 ∈ DataW.weights Try.prog 25 d := by
            rw [hd]
            simp [DataW.weights, Try.underlying25, DataW.weightsEach, Try.underlying23, he]
          have := hw _ hm
          rw [hb, hl] at this
          unfold reachBytes at this
          omega
      · intro x hx
        obtain ⟨p, _, rfl⟩ := List.mem_map.1 hx
        exact p.2
      · intro x hx
        obtain ⟨p, _, rfl⟩ := List.mem_map.1 hx
        exact p.2
end
end Go.Proofs.Ythaigkamfnjfbaa
namespace Go.Proofs.Ythaigkamfnjfbaa
open Go.Sx
set_option maxRecDepth 100000
def bn (b : Bool) : Nat := if b = true then 1 else 0
def b8 (a b c d e f g h : Bool) : Nat := 128 * bn a + 64 * bn b + 32 * bn c + 16 * bn d + 8 * bn e + 4 * bn f + 2 * bn g + bn h
def byteN (B : List Bool) (j : Nat) : Nat := b8 (B.getD (8 * j) false) (B.getD (8 * j + 1) false) (B.getD (8 * j + 2) false) (B.getD (8 * j + 3) false) (B.getD (8 * j + 4) false) (B.getD (8 * j + 5) false) (B.getD (8 * j + 6) false) (B.getD (8 * j + 7) false)
theorem b8_lt (a b c d e f g h : Bool) : b8 a b c d e f g h < 256 := by revert a b c d e f g h; decide
theorem orb_all : ((List.range 8).all fun m => (List.range 256).all fun x => (x % 2 ^ (8 - m) != 0) || (orb (x : Int) 1 ((7 - m : Nat) : Int) == ((x + 2 ^ (7 - m) : Nat) : Int) && orb (x : Int) 0 ((7 - m : Nat) : Int) == (x : Int))) = true := by kernel_rfl
theorem orb_eq {m x : Nat} (hm : m < 8) (hx : x < 256) (h0 : x % 2 ^ (8 - m) = 0) (b : Bool) : orb (x : Int) (bn b : Int) ((7 - m : Nat) : Int) = ((x + bn b * 2 ^ (7 - m) : Nat) : Int) := by
  have h := List.all_eq_true.1 orb_all m (List.mem_range.2 hm)
  have h := List.all_eq_true.1 h x (List.mem_range.2 hx)
  simp only [h0, bne_self_eq_false, Bool.false_or, Bool.and_eq_true, beq_iff_eq] at h
  cases b
  · show orb _ 0 _ = _
    rw [h.2]; simp [bn]
  · show orb _ 1 _ = _
    rw [h.1]; simp [bn]
theorem rb_all : ((List.range 8).all fun k => (List.range 256).all fun x => W (bitI .and .u8 ((x : Int).fdiv (2 ^ (min (W (7 - (k : Int))).toNat IntKind.u8.bits))) 1) == (((x / 2 ^ (7 - k)) % 2 : Nat) : Int)) = true := by kernel_rfl
theorem b8_bit (a b c d e f g h : Bool) : (b8 a b c d e f g h / 128) % 2 = bn a ∧ (b8 a b c d e f g h / 64) % 2 = bn b ∧ (b8 a b c d e f g h / 32) % 2 = bn c ∧ (b8 a b c d e f g h / 16) % 2 = bn d ∧ (b8 a b c d e f g h / 8) % 2 = bn e ∧ (b8 a b c d e f g h / 4) % 2 = bn f ∧ (b8 a b c d e f g h / 2) % 2 = bn g ∧ (b8 a b c d e f g h / 1) % 2 = bn h := by revert a b c d e f g h; decide
theorem byteN_bit (B : List Bool) (j k : Nat) (hk : k < 8) : (byteN B j / 2 ^ (7 - k)) % 2 = bn (B.getD (8 * j + k) false) := by
  have h := b8_bit (B.getD (8 * j) false) (B.getD (8 * j + 1) false) (B.getD (8 * j + 2) false) (B.getD (8 * j + 3) false) (B.getD (8 * j + 4) false) (B.getD (8 * j + 5) false) (B.getD (8 * j + 6) false) (B.getD (8 * j + 7) false)
  obtain ⟨h0, h1, h2, h3, h4, h5, h6, h7⟩ := h
  have hk8 : k = 0 ∨ k = 1 ∨ k = 2 ∨ k = 3 ∨ k = 4 ∨ k = 5 ∨ k = 6 ∨ k = 7 := by omega
  rcases hk8 with rfl | rfl | rfl | rfl | rfl | rfl | rfl | rfl
  · exact h0
  · exact h1
  · exact h2
  · exact h3
  · exact h4
  · exact h5
  · exact h6
  · exact h7
/-- The bytes of some bits. -/
def byl (B : List Bool) : List Int := (List.range ((B.length + 7) / 8)).map fun j => (byteN B j : Int)
theorem byl_len (B : List Bool) : (byl B).length = (B.length + 7) / 8 := by simp [byl]
theorem rBit_byl (B : List Bool) {a : Nat} (h : a < B.length) : rBit (byl B) a = (bn (B.getD a false) : Int) := by
  have hj : a / 8 < (byl B).length := by rw [byl_len]; omega
  have hg : (byl B).getD (a / 8) 0 = (byteN B (a / 8) : Int) := by
    rw [List.getD_eq_getElem?_getD, List.getElem?_eq_getElem hj]
    simp [byl]
  have hk : a % 8 < 8 := Nat.mod_lt _ (by decide)
  have h1 := List.all_eq_true.1 rb_all (a % 8) (List.mem_range.2 hk)
  have h1 := List.all_eq_true.1 h1 (byteN B (a / 8)) (List.mem_range.2 (b8_lt ..))
  have h1 := eq_of_beq h1
  unfold rBit
  rw [hg]
  refine h1.trans ?_
  rw [byteN_bit B _ _ hk, show 8 * (a / 8) + a % 8 = a by omega]
structure Rep (H : List Int) (s : List Int × Int) (B : List Bool) : Prop where
  by' : s.1 = H ++ byl B
  rm : s.2 = (((8 - B.length % 8) % 8 : Nat) : Int)
theorem Rep.start (H : List Int) : Rep H (H, 0) [] := ⟨by simp [byl], rfl⟩
theorem getD_app (B : List Bool) (b : Bool) (i : Nat) : (B ++ [b]).getD i false = if i = B.length then b else B.getD i false := by
  rw [List.getD_eq_getElem?_getD, List.getD_eq_getElem?_getD, List.getElem?_append]
  split
  · rename_i h; rw [if_neg (by omega)]
  · rename_i h
    split
    · rename_i h2; simp [h2]
    · rename_i h2
      rw [List.getElem?_eq_none (by simp; omega), List.getElem?_eq_none (by omega)]
theorem byteN_app (B : List Bool) (b : Bool) (j : Nat) (h : 8 * j + 7 < B.length) : byteN (B ++ [b]) j = byteN B j := by
  unfold byteN
  simp only [getD_app]
  rw [if_neg (by omega), if_neg (by omega), if_neg (by omega), if_neg (by omega), if_neg (by omega), if_neg (by omega), if_neg (by omega), if_neg (by omega)]
theorem getD_ge (B : List Bool) {i : Nat} (h : B.length ≤ i) : B.getD i false = false := by
  rw [List.getD_eq_getElem?_getD, List.getElem?_eq_none h]; rfl
theorem byteN_last (B : List Bool) (b : Bool) : byteN B (B.length / 8) % 2 ^ (8 - B.length % 8) = 0 ∧ byteN (B ++ [b]) (B.length / 8) = byteN B (B.length / 8) + bn b * 2 ^ (7 - B.length % 8) := by
  obtain ⟨j, hj⟩ : ∃ j, B.length / 8 = j := ⟨_, rfl⟩
  obtain ⟨m, hm⟩ : ∃ m, B.length % 8 = m := ⟨_, rfl⟩
  have hl : B.length = 8 * j + m := by omega
  have hm8 : m < 8 := by omega
  rw [hj, hm]
  unfold byteN
  simp only [getD_app, hl]
  have z : ∀ k, m ≤ k → B.getD (8 * j + k) false = false := fun k hk => getD_ge B (by omega)
  have e0 : (8 * j = 8 * j + m) ↔ m = 0 := by omega
  have e1 : (8 * j + 1 = 8 * j + m) ↔ m = 1 := by omega
  have e2 : (8 * j + 2 = 8 * j + m) ↔ m = 2 := by omega
  have e3 : (8 * j + 3 = 8 * j + m) ↔ m = 3 := by omega
  have e4 : (8 * j + 4 = 8 * j + m) ↔ m = 4 := by omega
  have e5 : (8 * j + 5 = 8 * j + m) ↔ m = 5 := by omega
  have e6 : (8 * j + 6 = 8 * j + m) ↔ m = 6 := by omega
  have e7 : (8 * j + 7 = 8 * j + m) ↔ m = 7 := by omega
  simp only [e0, e1, e2, e3, e4, e5, e6, e7]
  have hm9 : m = 0 ∨ m = 1 ∨ m = 2 ∨ m = 3 ∨ m = 4 ∨ m = 5 ∨ m = 6 ∨ m = 7 := by omega
  generalize hx0 : B.getD (8 * j) false = x0
  generalize hx1 : B.getD (8 * j + 1) false = x1
  generalize hx2 : B.getD (8 * j + 2) false = x2
  generalize hx3 : B.getD (8 * j + 3) false = x3
  generalize hx4 : B.getD (8 * j + 4) false = x4
  generalize hx5 : B.getD (8 * j + 5) false = x5
  generalize hx6 : B.getD (8 * j + 6) false = x6
  generalize hx7 : B.getD (8 * j + 7) false = x7
  have z0 : m ≤ 0 → x0 = false := fun h => by rw [← hx0]; exact z 0 h
  have z1 : m ≤ 1 → x1 = false := fun h => by rw [← hx1]; exact z 1 h
  have z2 : m ≤ 2 → x2 = false := fun h => by rw [← hx2]; exact z 2 h
  have z3 : m ≤ 3 → x3 = false := fun h => by rw [← hx3]; exact z 3 h
  have z4 : m ≤ 4 → x4 = false := fun h => by rw [← hx4]; exact z 4 h
  have z5 : m ≤ 5 → x5 = false := fun h => by rw [← hx5]; exact z 5 h
  have z6 : m ≤ 6 → x6 = false := fun h => by rw [← hx6]; exact z 6 h
  have z7 : m ≤ 7 → x7 = false := fun h => by rw [← hx7]; exact z 7 h
  clear hx0 hx1 hx2 hx3 hx4 hx5 hx6 hx7 z e0 e1 e2 e3 e4 e5 e6 e7 hj hm hl
  rcases hm9 with rfl | rfl | rfl | rfl | rfl | rfl | rfl | rfl
  · rw [z0 (by decide), z1 (by decide), z2 (by decide), z3 (by decide), z4 (by decide), z5 (by decide), z6 (by decide), z7 (by decide)]
    clear z0 z1 z2 z3 z4 z5 z6 z7; revert b; decide
  · rw [z1 (by decide), z2 (by decide), z3 (by decide), z4 (by decide), z5 (by decide), z6 (by decide), z7 (by decide)]
    clear z0 z1 z2 z3 z4 z5 z6 z7; revert b x0; decide
  · rw [z2 (by decide), z3 (by decide), z4 (by decide), z5 (by decide), z6 (by decide), z7 (by decide)]
    clear z0 z1 z2 z3 z4 z5 z6 z7; revert b x0 x1; decide
  · rw [z3 (by decide), z4 (by decide), z5 (by decide), z6 (by decide), z7 (by decide)]
    clear z0 z1 z2 z3 z4 z5 z6 z7; revert b x0 x1 x2; decide
  · rw [z4 (by decide), z5 (by decide), z6 (by decide), z7 (by decide)]
    clear z0 z1 z2 z3 z4 z5 z6 z7; revert b x0 x1 x2 x3; decide
  · rw [z5 (by decide), z6 (by decide), z7 (by decide)]
    clear z0 z1 z2 z3 z4 z5 z6 z7; revert b x0 x1 x2 x3 x4; decide
  · rw [z6 (by decide), z7 (by decide)]
    clear z0 z1 z2 z3 z4 z5 z6 z7; revert b x0 x1 x2 x3 x4 x5; decide
  · rw [z7 (by decide)]
    clear z0 z1 z2 z3 z4 z5 z6 z7; revert b x0 x1 x2 x3 x4 x5 x6; decide
theorem byl_app (B : List Bool) (b : Bool) : byl (B ++ [b]) = (List.range (B.length / 8)).map (fun j => (byteN B j : Int)) ++ [((byteN B (B.length / 8) + bn b * 2 ^ (7 - B.length % 8) : Nat) : Int)] := by
  unfold byl
  rw [show ((B ++ [b]).length + 7) / 8 = B.length / 8 + 1 by simp; omega, List.range_succ, List.map_append]
  congr 1
  · refine List.map_congr_left fun j hj => ?_
    have := List.mem_range.1 hj
    rw [byteN_app B b j (by omega)]
  · show [((byteN (B ++ [b]) (B.length / 8) : Nat) : Int)] = [_]
    rw [(byteN_last B b).2]
theorem Rep.bit {H : List Int} {s : List Int × Int} {B : List Bool} (h : Rep H s B) {v j : Int} {b : Bool} (hb : bitW v j = (bn b : Int)) : Rep H (wBit v j s) (B ++ [b]) := by
  obtain ⟨h1, h2⟩ := h
  obtain ⟨z1, z2⟩ := byteN_last B b
  have hm8 : B.length % 8 < 8 := Nat.mod_lt _ (by decide)
  have hlt : byteN B (B.length / 8) < 256 := b8_lt ..
  -- the bytes ahead of the last one, and the last one
  obtain ⟨P, hP⟩ : ∃ P, H ++ (List.range (B.length / 8)).map (fun j => (byteN B j : Int)) = P := ⟨_, rfl⟩
  have hpre : wPre s = (P ++ [(byteN B (B.length / 8) : Int)], ((8 - B.length % 8 : Nat) : Int)) := by
    unfold wPre
    by_cases hz : B.length % 8 = 0
    · have hs2 : s.2 = 0 := by rw [h2, hz]; rfl
      rw [if_pos hs2, h1, ← hP]
      have hb0 : byteN B (B.length / 8) = 0 := by
        have hge : ∀ k, B.getD (8 * (B.length / 8) + k) false = false := fun k => getD_ge B (by omega)
        unfold byteN
        have h0 := hge 0
        rw [Nat.add_zero] at h0
        rw [h0, hge 1, hge 2, hge 3, hge 4, hge 5, hge 6, hge 7]; rfl
      rw [hb0, hz]
      unfold byl
      rw [show (B.length + 7) / 8 = B.length / 8 by omega]; rfl
    · have hs2 : s.2 ≠ 0 := by rw [h2]; omega
      rw [if_neg hs2]
      refine Prod.ext ?_ ?_
      · show s.1 = _
        rw [h1, ← hP]
        unfold byl
        rw [show (B.length + 7) / 8 = B.length / 8 + 1 by omega, List.range_succ, List.map_append, List.append_assoc]; rfl
      · show s.2 = _
        rw [h2]; omega
  unfold wBit
  rw [hpre]
  have hw : W (((8 - B.length % 8 : Nat) : Int) - 1) = ((7 - B.length % 8 : Nat) : Int) := by
    rw [show ((8 - B.length % 8 : Nat) : Int) - 1 = ((7 - B.length % 8 : Nat) : Int) by omega]; exact W_id (by omega) (by omega)
  unfold wPut
  simp only [hw, hb]
  have hg : (P ++ [(byteN B (B.length / 8) : Int)]).getD ((P ++ [(byteN B (B.length / 8) : Int)]).length - 1) 0 = (byteN B (B.length / 8) : Int) := by
    rw [List.getD_eq_getElem?_getD]; simp
  rw [hg, orb_eq hm8 hlt z1 b]
  refine ⟨?_, ?_⟩
  · show (P ++ [(byteN B (B.length / 8) : Int)]).set ((P ++ [(byteN B (B.length / 8) : Int)]).length - 1) _ = _
    rw [byl_app, ← List.append_assoc, hP, List.set_append_right _ _ (by simp)]
    simp
  · show ((7 - B.length % 8 : Nat) : Int) = _
    simp only [List.length_append, List.length_singleton]
    omega
theorem and1 (x : Nat) (h : x < 2 ^ 62) : bitI .and .i64 (x : Int) 1 = ((x % 2 : Nat) : Int) := by
  unfold bitI
  simp only
  have e : (BitVec.ofInt IntKind.i64.bits (x : Int) &&& BitVec.ofInt IntKind.i64.bits 1).toNat = x % 2 := by
    rw [BitVec.toNat_and]
    have h1 : (BitVec.ofInt IntKind.i64.bits (x : Int)).toNat = x := by
      rw [BitVec.toNat_ofInt]
      show (((x : Int) % ((2 ^ 64 : Nat) : Int))).toNat = x
      have : (x : Int) % ((2 ^ 64 : Nat) : Int) = ((x % 2 ^ 64 : Nat) : Int) := rfl
      rw [this, Int.toNat_natCast, Nat.mod_eq_of_lt (by omega)]
    have h2 : (BitVec.ofInt IntKind.i64.bits 1).toNat = 1 := by kernel_rfl
    rw [h1, h2, Nat.and_one_is_mod]
  rw [e]
  exact W_id (by omega) (by omega)
theorem shr_nat (v j : Nat) (hj : j ≤ 64) : shrI (v : Int) (j : Int) = ((v / 2 ^ j : Nat) : Int) := by
  unfold shrI
  rw [show min ((j : Int)).toNat IntKind.i64.bits = j from Nat.min_eq_left hj]
  rw [show ((2 : Int) ^ j) = ((2 ^ j : Nat) : Int) by simp, Int.fdiv_eq_ediv_of_nonneg _ (Int.natCast_nonneg _)]
  rfl
def bitN (v j : Nat) : Bool := v / 2 ^ j % 2 == 1
theorem bn_bitN (v j : Nat) : bn (bitN v j) = v / 2 ^ j % 2 := by
  unfold bn bitN
  have : v / 2 ^ j % 2 < 2 := Nat.mod_lt _ (by decide)
  rcases Nat.lt_or_ge (v / 2 ^ j % 2) 1 with h | h
  · have : v / 2 ^ j % 2 = 0 := by omega
    rw [this]; rfl
  · have : v / 2 ^ j % 2 = 1 := by omega
    rw [this]; rfl
theorem bitW_nat (v j : Nat) (hv : v < 2 ^ 62) (hj : j ≤ 64) : bitW (v : Int) (j : Int) = (bn (bitN v j) : Int) := by
  unfold bitW
  rw [shr_nat v j hj, and1 _ (Nat.lt_of_le_of_lt (Nat.div_le_self _ _) hv), bn_bitN]
/-- The lowest bits of a number, the highest one first. -/
def bl (v n : Nat) : List Bool := (List.range n).map fun j => bitN v (n - 1 - j)
theorem bl_len (v n : Nat) : (bl v n).length = n := by simp [bl]
theorem Rep.bits {H : List Int} {s : List Int × Int} {B : List Bool} (h : Rep H s B) {v n : Nat} (hv : v < 2 ^ 62) (hn : n ≤ 64) : ∀ i, i ≤ n → Rep H (wBits (v : Int) (n : Int) i s) (B ++ (List.range i).map fun j => bitN v (n - 1 - j))
  | 0, _ => by simpa [wBits] using h
  | i + 1, hi => by
    have ih := Rep.bits h hv hn i (by omega)
    rw [List.range_succ, List.map_append, ← List.append_assoc]
    refine ih.bit ?_
    rw [show (n : Int) - 1 - (i : Int) = ((n - 1 - i : Nat) : Int) by omega]
    exact bitW_nat v _ hv (by omega)
theorem Rep.num {H : List Int} {s : List Int × Int} {B : List Bool} (h : Rep H s B) {v n : Nat} (hv : v < 2 ^ 62) (hn : n ≤ 64) : Rep H (wBits (v : Int) (n : Int) n s) (B ++ bl v n) := h.bits hv hn n (Nat.le_refl n)
def eB (k v : Nat) : List Bool := if v / 2 ^ k < 24 then List.replicate (v / 2 ^ k) true ++ [false] ++ bl v k else List.replicate 24 true ++ bl v 31
theorem ones_all : ((List.range 24).all fun q => (W (shlI 1 (W ((q : Int) + 1)) - 2) == ((2 ^ (q + 1) - 2 : Nat) : Int)) && (bl (2 ^ (q + 1) - 2) (q + 1) == List.replicate q true ++ [false])) = true := by kernel_rfl
theorem ones24 : bl 16777215 24 = List.replicate 24 true := by kernel_rfl
theorem Rep.write {H : List Int} {s : List Int × Int} {B : List Bool} (h : Rep H s B) (m : Int × Int) {v : Nat} (hv : v < 2147483648) : Rep H (mWrite m (v : Int) s) (B ++ eB (lowN m) v) := by
  have hk := lowN_le m
  obtain ⟨k, hk'⟩ : ∃ k, lowN m = k := ⟨_, rfl⟩
  rw [hk'] at hk
  have e0 : mWrite m (v : Int) s = if shrI (v : Int) (k : Int) < 24 then wBits (v : Int) (k : Int) k (wBits (W (shlI 1 (W (shrI (v : Int) (k : Int) + 1)) - 2)) (W (shrI (v : Int) (k : Int) + 1)) (W (shrI (v : Int) (k : Int) + 1)).toNat s) else wBits (v : Int) 31 31 (wBits 16777215 24 24 s) := by subst hk'; rfl
  rw [e0, hk', shr_nat v k (by omega)]
  obtain ⟨q, hq⟩ : ∃ q, v / 2 ^ k = q := ⟨_, rfl⟩
  unfold eB
  rw [hq]
  by_cases h24 : q < 24
  · rw [if_pos (by omega), if_pos h24]
    have hw : W ((q : Int) + 1) = ((q + 1 : Nat) : Int) := W_id (by omega) (by omega)
    have ha := List.all_eq_true.1 ones_all q (List.mem_range.2 h24)
    simp only [Bool.and_eq_true] at ha
    have ha1 := eq_of_beq ha.1
    have ha2 := eq_of_beq ha.2
    rw [ha1, hw, Int.toNat_natCast]
    have hp : 2 ^ (q + 1) ≤ 2 ^ 24 := Nat.pow_le_pow_right (by decide) (by omega)
    have hb : 2 ^ (q + 1) - 2 < 2 ^ 62 := by omega
    have h1 := h.num (v := 2 ^ (q + 1) - 2) (n := q + 1) hb (by omega)
    rw [ha2] at h1
    have h2 := h1.num (v := v) (n := k) (by omega) (by omega)
    rw [← List.append_assoc]
    exact h2
  · rw [if_neg (by omega), if_neg h24]
    have h1 := h.num (v := 16777215) (n := 24) (by decide) (by decide)
    rw [ones24] at h1
    have h2 := h1.num (v := v) (n := 31) (by omega) (by decide)
    rw [← List.append_assoc]
    exact h2
def nb (B : List Bool) (a : Nat) : Nat → Nat
  | 0 => 0
  | i + 1 => 2 * nb B a i + bn (B.getD (a + i) false)
theorem nb_lt (B : List Bool) (a : Nat) : ∀ i, nb B a i < 2 ^ i
  | 0 => Nat.one_pos
  | i + 1 => by
    have := nb_lt B a i
    have hb : bn (B.getD (a + i) false) ≤ 1 := by unfold bn; split <;> omega
    unfold nb
    rw [Nat.pow_succ]; omega
theorem or1 (x b : Nat) (hx : x < 2 ^ 60) (hb : b ≤ 1) : bitI .or .i64 ((2 * x : Nat) : Int) (b : Int) = ((2 * x + b : Nat) : Int) := by
  unfold bitI
  simp only
  have e : (BitVec.ofInt IntKind.i64.bits ((2 * x : Nat) : Int) ||| BitVec.ofInt IntKind.i64.bits (b : Int)).toNat = 2 * x + b := by
    rw [BitVec.toNat_or]
    have h1 : ∀ y : Nat, y < 2 ^ 62 → (BitVec.ofInt IntKind.i64.bits (y : Int)).toNat = y := fun y hy => by
      rw [BitVec.toNat_ofInt]
      show (((y : Int) % ((2 ^ 64 : Nat) : Int))).toNat = y
      have : (y : Int) % ((2 ^ 64 : Nat) : Int) = ((y % 2 ^ 64 : Nat) : Int) := rfl
      rw [this, Int.toNat_natCast, Nat.mod_eq_of_lt (by omega)]
    rw [h1 _ (by omega), h1 _ (by omega)]
    have := Nat.shiftLeft_add_eq_or_of_lt (b := b) (i := 1) (by omega) x
    rw [Nat.shiftLeft_eq, Nat.pow_one, Nat.mul_comm] at this
    exact this.symm
  rw [e]
  exact W_id (by omega) (by omega)
theorem rTk_nb (B : List Bool) (a : Nat) : ∀ i, i ≤ 40 → a + i ≤ B.length → rTk (byl B) a i = (nb B a i : Int)
  | 0, _, _ => rfl
  | i + 1, hi, hl => by
    have ih := rTk_nb B a i (by omega) (by omega)
    have hlt := nb_lt B a i
    have hp : 2 ^ i ≤ 2 ^ 40 := Nat.pow_le_pow_right (by decide) (by omega)
    have hb : bn (B.getD (a + i) false) ≤ 1 := by unfold bn; split <;> omega
    unfold rTk
    rw [ih, rBit_byl B (by omega)]
    rw [show (nb B a i : Int) * 2 ^ (min (1 : Int).toNat IntKind.i64.bits) = ((2 * nb B a i : Nat) : Int) by
      show (nb B a i : Int) * 2 ^ 1 = _
      omega]
    rw [W_id (by omega) (by omega), or1 _ _ (by omega) hb]
    rfl
theorem nb_app (P Q : List Bool) : ∀ i, nb (P ++ Q) P.length i = nb Q 0 i
  | 0 => rfl
  | i + 1 => by
    unfold nb
    rw [nb_app P Q i, List.getD_eq_getElem?_getD, List.getD_eq_getElem?_getD, List.getElem?_append_right (by omega)]
    congr 3
    congr 1
    congr 1
    omega
theorem nb_bl (v n : Nat) (Q : List Bool) : ∀ i, i ≤ n → nb (bl v n ++ Q) 0 i = v / 2 ^ (n - i) % 2 ^ i
  | 0, _ => by simp [nb, Nat.mod_one]
  | i + 1, hi => by
    unfold nb
    rw [nb_bl v n Q i (by omega)]
    have hg : (bl v n ++ Q).getD (0 + i) false = bitN v (n - 1 - i) := by
      rw [Nat.zero_add, List.getD_eq_getElem?_getD, List.getElem?_append_left (by rw [bl_len]; omega)]
      unfold bl
      rw [List.getElem?_map, List.getElem?_range (by omega)]; rfl
    rw [hg, bn_bitN, show n - i = (n - (i + 1)) + 1 by omega, show n - 1 - i = n - (i + 1) by omega]
    obtain ⟨x, hx⟩ : ∃ x, v / 2 ^ (n - (i + 1)) = x := ⟨_, rfl⟩
    rw [Nat.pow_succ, ← Nat.div_div_eq_div_mul, hx, Nat.pow_succ, Nat.mul_comm (2 ^ i) 2, Nat.mod_mul]
    omega
theorem nb_num (P Q : List Bool) (v n : Nat) : nb (P ++ (bl v n ++ Q)) P.length n = v % 2 ^ n := by
  rw [nb_app, nb_bl v n Q n (Nat.le_refl n), Nat.sub_self, Nat.pow_zero, Nat.div_one]
def qOf (k v : Nat) : Nat := if v / 2 ^ k < 24 then v / 2 ^ k else 24
theorem rT1 {B : List Bool} {a : Nat} (h : a < B.length) : rTk (byl B) a 1 = (bn (B.getD a false) : Int) := by
  rw [rTk_nb B a 1 (by decide) (by omega)]
  unfold nb nb
  simp
theorem getD_r (P Q : List Bool) (j : Nat) : (P ++ Q).getD (P.length + j) false = Q.getD j false := by
  rw [List.getD_eq_getElem?_getD, List.getD_eq_getElem?_getD, List.getElem?_append_right (by omega)]
  congr 2
  omega
theorem getD_rep (q : Nat) (Q : List Bool) {j : Nat} (h : j < q) : (List.replicate q true ++ Q).getD j false = true := by
  rw [List.getD_eq_getElem?_getD, List.getElem?_append_left (by simpa using h)]
  simp [h]
theorem getD_at (q : Nat) (b : Bool) (Q : List Bool) : (List.replicate q true ++ (b :: Q)).getD q false = b := by
  have := getD_r (List.replicate q true) (b :: Q) 0
  simp only [List.length_replicate, Nat.add_zero] at this
  rw [this]; rfl
theorem read_ok (P Q : List Bool) (m : Int × Int) {v : Nat} (hv : v < 2147483648) : ReadOK (byl (P ++ (eB (lowN m) v ++ Q))) m P.length (qOf (lowN m) v) ∧ rVal (byl (P ++ (eB (lowN m) v ++ Q))) m P.length (qOf (lowN m) v) = (v : Int) ∧
    rC (qOf (lowN m) v) + rN (qOf (lowN m) v) (lowN m) = (eB (lowN m) v).length := by
  have hk := lowN_le m
  obtain ⟨k, hk'⟩ : ∃ k, lowN m = k := ⟨_, rfl⟩
  have hbl : ∀ B : List Bool, B.length ≤ 8 * (byl B).length := fun B => by rw [byl_len]; omega
  by_cases h24 : v / 2 ^ k < 24
  · obtain ⟨q, hq⟩ : ∃ q, v / 2 ^ k = q := ⟨_, rfl⟩
    have eE : eB (lowN m) v = List.replicate q true ++ (false :: bl v k) := by rw [hk']; unfold eB; rw [if_pos h24, hq]; simp
    have eQ : qOf (lowN m) v = q := by rw [hk']; unfold qOf; rw [if_pos h24, hq]
    rw [hq] at h24
    have eC : rC q = q + 1 := by unfold rC; rw [if_pos h24]
    have eN : rN q (lowN m) = k := by unfold rN; rw [if_pos h24, hk']
    have eH : rH q (lowN m) = shlI (q : Int) (k : Int) := by unfold rH; rw [if_pos h24, hk']
    rw [eE, eQ]
    obtain ⟨B, hB⟩ : ∃ B, P ++ (List.replicate q true ++ (false :: bl v k) ++ Q) = B := ⟨_, rfl⟩
    have hlen : B.length = P.length + (q + 1 + k) + Q.length := by rw [← hB]; simp [bl_len]; omega
    have hg : ∀ j, B.getD (P.length + j) false = (List.replicate q true ++ (false :: (bl v k ++ Q))).getD j false := fun j => by rw [← hB, getD_r]; simp
    rw [hB]
    refine ⟨⟨by omega, fun j hj => ?_, fun _ => ?_, ?_⟩, ?_, ?_⟩
    · rw [rT1 (by omega), hg, getD_rep q _ hj]; rfl
    · rw [rT1 (by omega), hg, getD_at]; rfl
    · rw [eC, eN]; have := hbl B; omega
    · unfold rVal
      rw [eC, eN, eH, rTk_nb B _ k (by omega) (by omega)]
      have hn : nb B (P.length + (q + 1)) k = v % 2 ^ k := by
        have := nb_num (P ++ (List.replicate q true ++ [false])) Q v k
        rw [← this, ← hB]
        congr 1
        · simp
        · simp
      rw [hn]
      have h1 : 2 ^ k * q + v % 2 ^ k = v := by rw [← hq]; exact Nat.div_add_mod v (2 ^ k)
      have hs : shlI (q : Int) (k : Int) = ((2 ^ k * q : Nat) : Int) := by
        unfold shlI
        rw [show min ((k : Int)).toNat IntKind.i64.bits = k from Nat.min_eq_left (by omega : k ≤ 64)]
        rw [show (q : Int) * 2 ^ k = ((2 ^ k * q : Nat) : Int) by rw [Nat.mul_comm]; simp]
        exact W_id (by omega) (by omega)
      rw [hs, W_id (by omega) (by omega)]
      omega
    · rw [eC, eN]; simp [bl_len]; omega
  · have eE : eB (lowN m) v = List.replicate 24 true ++ bl v 31 := by rw [hk']; unfold eB; rw [if_neg h24]
    have eQ : qOf (lowN m) v = 24 := by rw [hk']; unfold qOf; rw [if_neg h24]
    have eC : rC 24 = 24 := rfl
    have eN : rN 24 (lowN m) = 31 := rfl
    have eH : rH 24 (lowN m) = 0 := rfl
    rw [eE, eQ]
    obtain ⟨B, hB⟩ : ∃ B, P ++ (List.replicate 24 true ++ bl v 31 ++ Q) = B := ⟨_, rfl⟩
    have hlen : B.length = P.length + (24 + 31) + Q.length := by rw [← hB]; simp [bl_len]; omega
    have hg : ∀ j, B.getD (P.length + j) false = (List.replicate 24 true ++ (bl v 31 ++ Q)).getD j false := fun j => by rw [← hB, getD_r]; simp
    rw [hB]
    refine ⟨⟨by omega, fun j hj => ?_, fun h => absurd h (by decide), ?_⟩, ?_, ?_⟩
    · rw [rT1 (by omega), hg, getD_rep 24 _ hj]; rfl
    · rw [eC, eN]; have := hbl B; omega
    · unfold rVal
      rw [eC, eN, eH, rTk_nb B _ 31 (by decide) (by omega)]
      have hn : nb B (P.length + 24) 31 = v % 2 ^ 31 := by
        have := nb_num (P ++ List.replicate 24 true) Q v 31
        rw [← this, ← hB]
        congr 1
        · simp
        · simp
      rw [hn, Nat.mod_eq_of_lt (by omega), W_id (by omega) (by omega)]
      omega
    · rw [eC, eN]; simp [bl_len]
/-- The bits of some events. -/
def evB (l : List Evt) : Nat → List Bool
  | 0 => []
  | i + 1 => evB l i ++ (eB (lowN (pS l i).2.1) (pGap l i).toNat ++ eB (lowN (pS l i).2.2) (pPlc l i).toNat)
/-- Numbers that can be written. -/
structure NumOK (l : List Evt) : Prop where
  g0 : ∀ i, i < l.length → 0 ≤ pGap l i
  g1 : ∀ i, i < l.length → pGap l i < 2147483648
  p0 : ∀ i, i < l.length → 0 ≤ pPlc l i
  p1 : ∀ i, i < l.length → pPlc l i < 2147483648
theorem evB_rep {l : List Evt} (h : NumOK l) : ∀ i, i ≤ l.length → Rep (hdr l.length) (pS l i).1 (evB l i)
  | 0, _ => Rep.start _
  | i + 1, hi => by
    have ih := evB_rep h i (by omega)
    have hg0 := h.g0 i (by omega)
    have hg1 := h.g1 i (by omega)
    have hp0 := h.p0 i (by omega)
    have hp1 := h.p1 i (by omega)
    have h1 := ih.write (pS l i).2.1 (v := (pGap l i).toNat) (by omega)
    rw [Int.toNat_of_nonneg hg0] at h1
    have h2 := h1.write (pS l i).2.2 (v := (pPlc l i).toNat) (by omega)
    rw [Int.toNat_of_nonneg hp0, List.append_assoc] at h2
    exact h2
theorem evB_pre (l : List Evt) : ∀ n i, i ≤ n → ∃ Q, evB l n = evB l i ++ Q
  | 0, i, hi => by
    have : i = 0 := by omega
    subst this
    exact ⟨[], rfl⟩
  | n + 1, i, hi => by
    rcases Nat.lt_or_ge i (n + 1) with h | h
    · obtain ⟨Q, hQ⟩ := evB_pre l n i (by omega)
      exact ⟨Q ++ (eB (lowN (pS l n).2.1) (pGap l n).toNat ++ eB (lowN (pS l n).2.2) (pPlc l n).toNat), by
        show evB l n ++ _ = _
        rw [hQ, List.append_assoc]⟩
    · have : i = n + 1 := by omega
      subst this
      exact ⟨[], by simp⟩
theorem cnt_all : ((List.range 1000).all fun n => cntH (IntKind.u8.wrap (shrI (n : Int) 16)) (IntKind.u8.wrap (shrI (n : Int) 8)) (IntKind.u8.wrap (n : Int)) == (n : Int)) = true := by kernel_rfl
/-- The first tick and place, and those behind them. -/
structure EvsOK (l : List Evt) : Prop where
  e0 : 0 < l.length → pGap l 0 = (l.getD 0 evt0).tick ∧ pPlc l 0 = (l.getD 0 evt0).id
  e1 : ∀ i, i < l.length → 0 < i → W (pGap l i + (l.getD (i - 1) evt0).tick) = (l.getD i evt0).tick
  e2 : ∀ i, i < l.length → 0 < i → pGap l i = 0 → W (pPlc l i + W ((l.getD (i - 1) evt0).id + 1)) = (l.getD i evt0).id
  e3 : ∀ i, i < l.length → 0 < i → pGap l i ≠ 0 → pPlc l i = (l.getD i evt0).id
/-- What is packed can be read again. -/
theorem unp_ok {l : List Evt} (h : NumOK l) (hs : EvsOK l) (hl : l.length < 1000) : ∃ pos mid q1 q2, UnpOK l pos mid q1 q2 := by
  have hr := evB_rep h l.length (Nat.le_refl _)
  have hd5 : (pS l l.length).1.1.drop 5 = byl (evB l l.length) := by rw [hr.by']; rfl
  have key : ∀ i, i < l.length → ∃ Q, evB l l.length = evB l i ++ (eB (lowN (pS l i).2.1) (pGap l i).toNat ++ Q) ∧ evB l l.length = (evB l i ++ eB (lowN (pS l i).2.1) (pGap l i).toNat) ++ (eB (lowN (pS l i).2.2) (pPlc l i).toNat ++ (Q.drop (eB (lowN (pS l i).2.2) (pPlc l i).toNat).length)) := fun i hi => by
    obtain ⟨Q, hQ⟩ := evB_pre l l.length (i + 1) (by omega)
    refine ⟨eB (lowN (pS l i).2.2) (pPlc l i).toNat ++ Q, ?_, ?_⟩
    · rw [hQ]; show evB l i ++ _ ++ Q = _; simp
    · rw [hQ, List.drop_left]; show evB l i ++ _ ++ Q = _; simp
  have gN : ∀ i, i < l.length → ((pGap l i).toNat : Int) = pGap l i ∧ (pGap l i).toNat < 2147483648 := fun i hi => by have := h.g0 i hi; have := h.g1 i hi; omega
  have pN : ∀ i, i < l.length → ((pPlc l i).toNat : Int) = pPlc l i ∧ (pPlc l i).toNat < 2147483648 := fun i hi => by have := h.p0 i hi; have := h.p1 i hi; omega
  refine ⟨fun i => (evB l i).length, fun i => (evB l i ++ eB (lowN (pS l i).2.1) (pGap l i).toNat).length, fun i => qOf (lowN (pS l i).2.1) (pGap l i).toNat, fun i => qOf (lowN (pS l i).2.2) (pPlc l i).toNat, ?_, ?_, rfl, fun i hi => ?_, fun i hi => ?_, fun i hi => ?_, fun i hi => ?_, fun i hi => ?_, fun i hi => ?_, hs.e0, hs.e1, hs.e2, hs.e3⟩
  · rw [hr.by']; simp [hdr]
  · rw [hr.by']
    show cntH (IntKind.u8.wrap (shrI (l.length : Int) 16)) (IntKind.u8.wrap (shrI (l.length : Int) 8)) (IntKind.u8.wrap (l.length : Int)) = _
    exact eq_of_beq (List.all_eq_true.1 cnt_all l.length (List.mem_range.2 hl))
  · obtain ⟨Q, k1, _⟩ := key i hi
    rw [hd5, k1]
    exact (read_ok (evB l i) Q _ (gN i hi).2).1
  · obtain ⟨Q, k1, _⟩ := key i hi
    rw [hd5, k1]
    exact ((read_ok (evB l i) Q _ (gN i hi).2).2.1).trans (gN i hi).1
  · obtain ⟨Q, k1, _⟩ := key i hi
    have := (read_ok (evB l i) Q (pS l i).2.1 (gN i hi).2).2.2
    rw [List.length_append, Nat.add_assoc, this]
  · obtain ⟨Q, _, k2⟩ := key i hi
    rw [hd5, k2]
    exact (read_ok _ _ _ (pN i hi).2).1
  · obtain ⟨Q, _, k2⟩ := key i hi
    rw [hd5, k2]
    exact ((read_ok _ _ _ (pN i hi).2).2.1).trans (pN i hi).1
  · have := (read_ok (evB l i) [] (pS l i).2.2 (pN i hi).2).2.2
    show (evB l i ++ (eB (lowN (pS l i).2.1) (pGap l i).toNat ++ eB (lowN (pS l i).2.2) (pPlc l i).toNat)).length = _
    rw [Nat.add_assoc, this]
    simp only [List.length_append]
    omega
/-- Events in order: all of them ahead of a place in a tick. -/
structure OrdW (P t b : Int) (l : List Evt) : Prop where
  srt : l.Pairwise ltE
  rg : ∀ x ∈ l, 0 ≤ x.tick ∧ 0 ≤ x.id ∧ x.id < P ∧ (x.tick < t ∨ x.tick = t ∧ x.id < b)
theorem OrdW.app {P t b : Int} {l : List Evt} (h : OrdW P t b l) {i b' : Int} (ht : 0 ≤ t) (hi : b ≤ i) (h0 : 0 ≤ i) (hP : i < P) (hb : i < b') : OrdW P t b' (l ++ [⟨t, i⟩]) where
  srt := by
    rw [List.pairwise_append]
    refine ⟨h.srt, List.pairwise_singleton _ _, fun x hx y hy => ?_⟩
    rw [List.mem_singleton] at hy
    subst hy
    rcases (h.rg x hx).2.2.2 with h1 | ⟨h1, h2⟩
    · exact .inl h1
    · exact .inr ⟨h1, by show x.id < i; omega⟩
  rg := fun x hx => by
    rcases List.mem_append.1 hx with h1 | h1
    · obtain ⟨g1, g2, g3, g4⟩ := h.rg x h1
      exact ⟨g1, g2, g3, g4.imp id fun ⟨k1, k2⟩ => ⟨k1, by omega⟩⟩
    · rw [List.mem_singleton] at h1
      subst h1
      exact ⟨ht, h0, hP, .inr ⟨rfl, hb⟩⟩
theorem OrdW.up {P t b b' : Int} {l : List Evt} (h : OrdW P t b l) (hb : b ≤ b') : OrdW P t b' l := ⟨h.srt, fun x hx => by
  obtain ⟨g1, g2, g3, g4⟩ := h.rg x hx
  exact ⟨g1, g2, g3, g4.imp id fun ⟨k1, k2⟩ => ⟨k1, by omega⟩⟩⟩
theorem OrdW.next {P t b : Int} {l : List Evt} (h : OrdW P t b l) : OrdW P (t + 1) 0 l := ⟨h.srt, fun x hx => by
  obtain ⟨g1, g2, g3, g4⟩ := h.rg x hx
  exact ⟨g1, g2, g3, .inl (by omega)⟩⟩
theorem wPix_ord (c : Cam) {P t : Int} (f : List Int) {s : List Int × List Evt} {p : Nat} (h : OrdW P t (2 * (p : Int)) s.2) (ht : 0 ≤ t) (hp : 2 * (p : Int) + 1 < P) (hP : P ≤ 100000) : OrdW P t (2 * ((p + 1 : Nat) : Int)) (wPix c t f s p).2 := by
  have e1 : W (2 * (p : Int)) = 2 * (p : Int) := W_id (by omega) (by omega)
  have e2 : W (2 * (p : Int) + 1) = 2 * (p : Int) + 1 := W_id (by omega) (by omega)
  unfold wPix
  rw [e1, e2]
  split
  · exact h.app ht (by omega) (by omega) (by omega) (by omega)
  · split
    · exact h.app ht (by omega) (by omega) (by omega) (by omega)
    · exact h.up (by omega)
theorem wRow_ord (c : Cam) {P t : Int} (f : List Int) {s : List Int × List Evt} (h : OrdW P t 0 s.2) (ht : 0 ≤ t) (hP : P ≤ 100000) : ∀ j : Nat, 2 * (j : Int) ≤ P → OrdW P t (2 * (j : Int)) (wRow c t f s j).2
  | 0, _ => h
  | j + 1, hj => by
    rw [wRow_succ]
    exact wPix_ord c f (wRow_ord c f h ht hP j (by omega)) ht (by omega) hP
theorem wAll_ord (c : Cam) (fs : List (List Int)) (hf : ∀ f ∈ fs, f.length = c.pix) (hp : c.pix ≤ 1000) : ∀ i : Nat, i ≤ fs.length → OrdW (2 * (c.pix : Int)) (i : Int) 0 (wAll c fs i).2
  | 0, _ => ⟨List.Pairwise.nil, fun x hx => by cases hx⟩
  | i + 1, hi => by
    have ih := wAll_ord c fs hf hp i (by omega)
    have hg : fs.getD i [] = fs[i] := by simp [List.getD_eq_getElem?_getD, show i < fs.length from hi]
    have hl : (fs.getD i []).length = c.pix := by rw [hg]; exact hf _ (List.getElem_mem _)
    show OrdW _ _ 0 (wRow c (i : Int) (fs.getD i []) (wAll c fs i) (fs.getD i []).length).2
    rw [hl]
    have := (wRow_ord c (fs.getD i []) ih (by omega) (by omega) c.pix (by omega)).next
    rw [show ((i + 1 : Nat) : Int) = (i : Int) + 1 by omega]
    exact this
/-- What is so of a camera's events. -/
structure WatOK (n : Nat) (P : Int) (l : List Evt) : Prop where
  srt : l.Pairwise ltE
  rg : ∀ x ∈ l, 0 ≤ x.tick ∧ x.tick < (n : Int) ∧ 0 ≤ x.id ∧ x.id < P
  len : l.length ≤ 480
theorem watch_ok {c : Cam} {fs : List (List Int)} (hf : ∀ f ∈ fs, f.length = c.pix) (hp : c.pix ≤ 16) (h30 : fs.length ≤ 30) : WatOK fs.length (2 * (c.pix : Int)) (watch c fs) := by
  have h := wAll_ord c fs hf (by omega) fs.length (Nat.le_refl _)
  refine ⟨h.srt, fun x hx => ?_, ?_⟩
  · obtain ⟨g1, g2, g3, g4⟩ := h.rg x hx
    exact ⟨g1, by omega, g2, g3⟩
  · have := (wAll_len c fs hf fs.length (Nat.le_refl _)).2
    exact Nat.le_trans this (Nat.mul_le_mul h30 hp)
section
variable {n : Nat} {P : Int} {l : List Evt}
theorem WatOK.get (h : WatOK n P l) {i : Nat} (hi : i < l.length) : l.getD i evt0 = l[i] ∧ 0 ≤ l[i].tick ∧ l[i].tick < (n : Int) ∧ 0 ≤ l[i].id ∧ l[i].id < P := by
  refine ⟨by simp [List.getD_eq_getElem?_getD, hi], h.rg _ (List.getElem_mem hi)⟩
theorem WatOK.lt (h : WatOK n P l) {i j : Nat} (hij : i < j) (hj : j < l.length) : ltE (l[i]'(by omega)) l[j] := List.pairwise_iff_getElem.1 h.srt i j (by omega) hj hij
theorem WatOK.gap (h : WatOK n P l) (hn : n ≤ 1000) {i : Nat} (hi : i < l.length) : (i = 0 → pGap l i = l[i].tick) ∧ (∀ h0 : 0 < i, pGap l i = l[i].tick - (l[i - 1]'(by omega)).tick) := by
  obtain ⟨g0, g1, g2, _⟩ := h.get hi
  refine ⟨fun h0 => by unfold pGap; rw [if_neg (by omega), g0], fun h0 => ?_⟩
  obtain ⟨k0, k1, k2, _⟩ := h.get (i := i - 1) (by omega)
  have e : pBef l i = l[i - 1]'(by omega) := by
    obtain ⟨j, rfl⟩ : ∃ j, i = j + 1 := ⟨i - 1, by omega⟩
    exact k0
  unfold pGap
  rw [if_pos h0, g0, e, W_id (by omega) (by omega)]
theorem WatOK.plc (h : WatOK n P l) (hP : P ≤ 1000) {i : Nat} (hi : i < l.length) : (i = 0 → pPlc l i = l[i].id) ∧ (∀ h0 : 0 < i, pPlc l i = if l[i].tick = (l[i - 1]'(by omega)).tick then l[i].id - ((l[i - 1]'(by omega)).id + 1) else l[i].id) := by
  obtain ⟨g0, g1, g2, g3, g4⟩ := h.get hi
  refine ⟨fun h0 => ?_, fun h0 => ?_⟩
  · subst h0
    have e : pBef l 0 = ⟨-1, 0⟩ := rfl
    unfold pPlc
    rw [g0, e, if_neg (by show ¬ l[0].tick = -1; omega)]
  · obtain ⟨k0, k1, k2, k3, k4⟩ := h.get (i := i - 1) (by omega)
    have e : pBef l i = l[i - 1]'(by omega) := by
      obtain ⟨j, rfl⟩ : ∃ j, i = j + 1 := ⟨i - 1, by omega⟩
      exact k0
    unfold pPlc
    rw [g0, e, W_id (a := (l[i - 1]'(by omega)).id + 1) (by omega) (by omega), W_id (by omega) (by omega)]
theorem WatOK.num (h : WatOK n P l) (hn : n ≤ 1000) (hP : P ≤ 1000) {i : Nat} (hi : i < l.length) : (0 ≤ pGap l i ∧ pGap l i < 2147483648) ∧ (0 ≤ pPlc l i ∧ pPlc l i < 2147483648) := by
  obtain ⟨g0, g1, g2, g3, g4⟩ := h.get hi
  rcases Nat.eq_zero_or_pos i with h0 | h0
  · rw [(h.gap hn hi).1 h0, (h.plc hP hi).1 h0]
    omega
  · obtain ⟨k0, k1, k2, k3, k4⟩ := h.get (i := i - 1) (by omega)
    have hlt := h.lt (i := i - 1) (j := i) (by omega) hi
    unfold ltE at hlt
    rw [(h.gap hn hi).2 h0, (h.plc hP hi).2 h0]
    split <;> omega
theorem WatOK.stream (h : WatOK n P l) (hn : n ≤ 1000) (hP : P ≤ 1000) : StreamOK l where
  pk := ⟨by have := h.len; omega, fun i hi => (h.num hn hP hi).1.1, fun i hi => (h.num hn hP hi).2.1⟩
  ok := fun i hi => by
    obtain ⟨_, g1, g2, g3, g4⟩ := h.get hi
    exact ⟨g1, by omega, g3, by omega⟩
  lt := fun i hi h0 => h.lt (by omega) hi
theorem WatOK.unp (h : WatOK n P l) (hn : n ≤ 1000) (hP : P ≤ 1000) : ∃ pos mid q1 q2, UnpOK l pos mid q1 q2 := by
  refine unp_ok ⟨fun i hi => (h.num hn hP hi).1.1, fun i hi => (h.num hn hP hi).1.2, fun i hi => (h.num hn hP hi).2.1, fun i hi => (h.num hn hP hi).2.2⟩ ⟨fun hi => ?_, fun i hi h0 => ?_, fun i hi h0 hg => ?_, fun i hi h0 hg => ?_⟩ (by have := h.len; omega)
  · rw [(h.gap hn hi).1 rfl, (h.plc hP hi).1 rfl, (h.get hi).1]
    exact ⟨rfl, rfl⟩
  · obtain ⟨g0, g1, g2, _⟩ := h.get hi
    obtain ⟨k0, k1, k2, _⟩ := h.get (i := i - 1) (by omega)
    rw [(h.gap hn hi).2 h0, g0, k0, W_id (by omega) (by omega)]
    omega
  · obtain ⟨g0, g1, g2, g3, g4⟩ := h.get hi
    obtain ⟨k0, k1, k2, k3, k4⟩ := h.get (i := i - 1) (by omega)
    rw [(h.gap hn hi).2 h0] at hg
    rw [(h.plc hP hi).2 h0, if_pos (by omega), g0, k0, W_id (a := (l[i - 1]'(by omega)).id + 1) (by omega) (by omega), W_id (by omega) (by omega)]
    omega
  · obtain ⟨g0, g1, g2, g3, g4⟩ := h.get hi
    rw [(h.gap hn hi).2 h0] at hg
    rw [(h.plc hP hi).2 h0, if_neg (by omega), g0]
end
theorem patP_chk {l : List Pm} {miss inp : Int} (h : PatOK inp l miss) : chk (patP l miss) = 0 ∧ 1 ≤ (patP l miss).thr ∧ (patP l miss).thr ≤ 64 := by
  have h1 := h.l0; have h2 := h.l1; have h3 := h.m0; have h4 := h.m1
  have ht : W ((l.length : Int) - miss) = (l.length : Int) - miss := W_id (by omega) (by omega)
  obtain ⟨t, hte⟩ : ∃ t, W ((l.length : Int) - miss) = t := ⟨_, rfl⟩
  have e : patP l miss = ⟨2, 256, 0, t, 0, 0, 0, 0⟩ := by unfold patP; rw [hte]
  rw [e]
  have ht1 : 1 ≤ t ∧ t ≤ 64 := by omega
  refine ⟨?_, ht1⟩
  have w1 : wi t 1 1048576 = true := wi_iff.2 ⟨by omega, by omega⟩
  have w2 : wi 0 0 (W (t - 1)) = true := wi_iff.2 ⟨by omega, by rw [W_id (by omega) (by omega)]; omega⟩
  have w3 : wi 0 0 1 = true := rfl
  have w4 : wi 256 (min 1 (most 2)) (most 2) = true := rfl
  have w5 : wi 0 (-1048576) 1048576 = true := rfl
  have w6 : wi 0 (-1048576) 0 = true := rfl
  have w7 : wi 0 0 64 = true := rfl
  unfold chk
  simp [w1, w2, w3, w4, w5, w6, w7]
theorem pat_net {l : List Pm} {miss inp : Int} (h : PatOK inp l miss) : netChk ⟨[patP l miss], inp, l.map patY⟩ = 0 := by
  have h1 := h.l0; have h2 := h.l1; have h3 := h.i0; have h4 := h.i1
  have hS : ∀ s ∈ l.map patY, synOk 1 inp s = true := fun s hs => by
    obtain ⟨m, hm, rfl⟩ := List.mem_map.1 hs
    obtain ⟨i, hi, rfl⟩ := List.getElem_of_mem hm
    have k1 := h.mi i hi
    have k2 := h.mo i hi
    unfold synOk srcB patY
    have e1 : W (-1 - l[i].inp) = -1 - l[i].inp := W_id (by omega) (by omega)
    have e2 : W (-inp) = -inp := W_id (by omega) (by omega)
    have e3 : W (16 - l[i].off) = 16 - l[i].off := W_id (by omega) (by omega)
    have e4 : W (((1 : Nat) : Int) - 1) = 0 := rfl
    rw [e1, e2, e3, e4]
    have a1 : wi (-1 - l[i].inp) (-inp) 0 = true := wi_iff.2 ⟨by omega, by omega⟩
    have a2 : wi (16 - l[i].off) 1 16 = true := wi_iff.2 ⟨by omega, by omega⟩
    have a3 : wi 0 0 0 = true := rfl
    have a4 : wi 1 (-32768) 32768 = true := rfl
    simp [a1, a2, a3, a4]
  unfold netChk
  rw [if_neg (by show ¬ ((1 : Nat) : Int) = 0; decide)]
  rw [if_neg (by
    have a1 : decide ((1024 : Int) < (([patP l miss].length : Nat) : Int)) = false := rfl
    have a2 : decide (256 < inp) = false := decide_eq_false (by omega)
    have a3 : decide ((8192 : Int) < (((l.map patY).length : Nat) : Int)) = false := decide_eq_false (by rw [List.length_map]; omega)
    simp only [a1, a2, a3]; decide)]
  rw [if_neg (by show ¬ inp < 0; omega)]
  have hc : firstE chk [patP l miss] = 0 := firstE_all fun i hi => by
    have : i = 0 := by simpa using hi
    subst this
    exact (patP_chk h).1
  show (if firstE chk [patP l miss] = 0 then _ else _) = _
  rw [if_pos hc]
  refine firstE_all fun i hi => ?_
  show (if synOk 1 inp (l.map patY)[i] = true then (0 : Int) else 3) = 0
  rw [if_pos (hS _ (List.getElem_mem hi))]
theorem pat_prep {l : List Pm} {miss : Int} {n : Nat} {P : Int} {ev : List Evt} (h : PatOK P l miss) (hw : WatOK n P ev) (hn : n ≤ 30) {K : Nat} (hK : K ≤ 100) : prepChk ⟨[patP l miss], P, l.map patY⟩ ev (K : Int) 10000 = 0 := by
  have h3 := h.i0; have h4 := h.i1
  have hlen := hw.len
  unfold prepChk
  rw [if_neg (by rw [pat_net h]; decide)]
  rw [if_neg (by rw [show wi (K : Int) 0 10000 = true from wi_iff.2 ⟨by omega, by omega⟩]; decide)]
  unfold evsChk
  rw [if_neg (by omega)]
  refine firstN_all fun j hj => ?_
  obtain ⟨g0, g1, g2, g3, g4⟩ := hw.get hj
  unfold evAt
  have w1 : wi (ev.getD j evt0).tick 0 (W (10000 - 1)) = true := by rw [g0]; exact wi_iff.2 ⟨g1, by rw [W_id (by decide) (by decide)]; omega⟩
  have w2 : wi (ev.getD j evt0).id 0 (W (P - 1)) = true := by rw [g0]; exact wi_iff.2 ⟨g3, by rw [W_id (by omega) (by omega)]; omega⟩
  rw [if_neg (by show ¬ (wi (ev.getD j evt0).tick 0 (W (10000 - 1)) && wi (ev.getD j evt0).id 0 (W (P - 1))) = false; rw [w1, w2]; decide)]
  rw [if_neg]
  rintro ⟨h0, hc⟩
  obtain ⟨k0, _⟩ := hw.get (i := j - 1) (by omega)
  rw [g0, k0] at hc
  have hlt := hw.lt (i := j - 1) (j := j) (by omega) hj
  unfold ltE at hlt
  omega
end Go.Proofs.Ythaigkamfnjfbaa
namespace Go.Proofs.Ythaigkamfnjfbaa
open Go.Sx
set_option maxRecDepth 100000
theorem nAt_split {i : Int} : ∀ {R : List Evt}, R.Pairwise (fun a b => a.tick ≤ b.tick) → (∀ x ∈ R, i ≤ x.tick) → (∀ x ∈ R.take (nAt i R), x.tick = i) ∧ (∀ x ∈ R.drop (nAt i R), i + 1 ≤ x.tick)
  | [], _, _ => ⟨fun x hx => (by cases hx), fun x hx => (by cases hx)⟩
  | y :: R, hs, hg => by
    obtain ⟨h1, h2⟩ := List.pairwise_cons.1 hs
    have ih := nAt_split h2 fun x hx => hg x (List.mem_cons_of_mem _ hx)
    unfold nAt
    split
    · rename_i e
      refine ⟨fun x hx => ?_, fun x hx => ?_⟩
      · rw [List.take_succ_cons] at hx
        rcases List.mem_cons.1 hx with rfl | hx
        · exact e
        · exact ih.1 x hx
      · rw [List.drop_succ_cons] at hx
        exact ih.2 x hx
    · rename_i e
      refine ⟨fun x hx => by simp at hx, fun x hx => ?_⟩
      rw [List.drop_zero] at hx
      have hy := hg y List.mem_cons_self
      rcases List.mem_cons.1 hx with rfl | hx
      · omega
      · have := h1 x hx; omega
theorem evR_split {l : List Evt} (hs : l.Pairwise ltE) (h0 : ∀ x ∈ l, 0 ≤ x.tick) : ∀ i : Nat, ∃ Q, l = Q ++ evR l i ∧ (∀ x ∈ Q, x.tick < (i : Int)) ∧ (∀ x ∈ evR l i, (i : Int) ≤ x.tick)
  | 0 => ⟨[], rfl, fun x hx => (by cases hx), fun x hx => h0 x hx⟩
  | i + 1 => by
    obtain ⟨Q, h1, h2, h3⟩ := evR_split hs h0 i
    have hle : (evR l i).Pairwise fun a b => a.tick ≤ b.tick := by
      have : (Q ++ evR l i).Pairwise ltE := h1 ▸ hs
      refine ((List.pairwise_append.1 this).2.1).imp fun {a b} h => ?_
      unfold ltE at h; omega
    obtain ⟨k1, k2⟩ := nAt_split hle h3
    refine ⟨Q ++ (evR l i).take (nAt i (evR l i)), ?_, fun x hx => ?_, fun x hx => ?_⟩
    · show l = Q ++ (evR l i).take (nAt i (evR l i)) ++ (evR l i).drop (nAt i (evR l i))
      rw [List.append_assoc, List.take_append_drop]; exact h1
    · rcases List.mem_append.1 hx with h | h
      · have := h2 x h; omega
      · have := k1 x h; omega
    · have hx : x ∈ (evR l i).drop (nAt i (evR l i)) := hx
      have := k2 x hx; omega
theorem trIn_mem {l : List Evt} (hs : l.Pairwise ltE) (h0 : ∀ x ∈ l, 0 ≤ x.tick) (i : Nat) : (∀ k, k ∈ trIn l i ↔ (⟨(i : Int), k⟩ : Evt) ∈ l) ∧ (trIn l i).Nodup := by
  obtain ⟨Q, h1, h2, h3⟩ := evR_split hs h0 i
  have hsQ : (Q ++ evR l i).Pairwise ltE := h1 ▸ hs
  have hR := (List.pairwise_append.1 hsQ).2.1
  have hle : (evR l i).Pairwise fun a b => a.tick ≤ b.tick := hR.imp fun {a b} h => by unfold ltE at h; omega
  obtain ⟨k1, k2⟩ := nAt_split hle h3
  refine ⟨fun k => ⟨fun hk => ?_, fun hk => ?_⟩, ?_⟩
  · obtain ⟨x, hx, rfl⟩ := List.mem_map.1 hk
    have e := k1 x hx
    have hm : x ∈ l := by rw [h1]; exact List.mem_append_right _ (List.mem_of_mem_take hx)
    have : x = ⟨(i : Int), x.id⟩ := by cases x; simp only at e; rw [e]
    rw [← this]; exact hm
  · rw [h1] at hk
    rcases List.mem_append.1 hk with h | h
    · have := h2 _ h; simp at this
    · rw [← List.take_append_drop (nAt i (evR l i)) (evR l i)] at h
      rcases List.mem_append.1 h with h | h
      · exact List.mem_map.2 ⟨_, h, rfl⟩
      · have := k2 _ h; simp only at this; omega
  · have hT : ((evR l i).take (nAt i (evR l i))).Pairwise fun a b => a.id ≠ b.id := by
      have h4 := hR.sublist (List.take_sublist (nAt i (evR l i)) (evR l i))
      refine List.Pairwise.imp_of_mem (fun {a b} ha hb h => ?_) h4
      have e1 := k1 a ha
      have e2 := k1 b hb
      unfold ltE at h
      omega
    show (List.map (fun x : Evt => x.id) _).Nodup
    rw [List.nodup_iff_pairwise_ne, List.pairwise_map]
    exact hT
theorem countP_add {α : Type} {p q r : α → Bool} : ∀ {l : List α}, (∀ x ∈ l, (if p x then 1 else 0) + (if q x then 1 else 0) = if r x then 1 else 0) → l.countP p + l.countP q = l.countP r
  | [], _ => rfl
  | a :: l, h => by
    have ih := countP_add (l := l) fun x hx => h x (List.mem_cons_of_mem _ hx)
    have ha := h a List.mem_cons_self
    rw [List.countP_cons, List.countP_cons, List.countP_cons]
    omega
theorem ylS_count (S : List Syn) (p : Syn → Bool) : ∀ {ks : List Int}, ks.Nodup → (ylS S ks).countP p = S.countP fun s => p s && decide (s.fr ∈ ks)
  | [], _ => by simp [ylS]
  | k :: ks, h => by
    obtain ⟨h1, h2⟩ := List.nodup_cons.1 h
    have ih := ylS_count S p h2
    have e : ylS S (k :: ks) = synAt S k ++ ylS S ks := by simp [ylS]
    rw [e, List.countP_append, ih]
    unfold synAt
    rw [List.countP_filter]
    refine countP_add fun s _ => ?_
    by_cases hk : s.fr = k
    · have hn : s.fr ∉ ks := by rw [hk]; exact h1
      simp [hk, h1]
    · simp [hk]
theorem dSt_fold {tk : Int} {j : Nat} : ∀ (xs : List Syn) (due : Nat → List Int), (∀ x ∈ xs, x.to = 0 ∧ x.w = 1) → (due j).length = 1 → 0 ≤ (due j).getD 0 0 → (due j).getD 0 0 + xs.length ≤ 1000000 →
    ((xs.foldl (dSt tk) due) j).getD 0 0 = (due j).getD 0 0 + ((xs.countP fun x => decide (slotN (tk + x.d) = j) : Nat) : Int)
  | [], due, _, _, _, _ => by simp
  | x :: xs, due, h, hl, h0, h1 => by
    obtain ⟨hx1, hx2⟩ := h x List.mem_cons_self
    have hlen : (dSt tk due x j).length = 1 := (dSt_len ..).trans hl
    have hv : (dSt tk due x j).getD 0 0 = (due j).getD 0 0 + (if slotN (tk + x.d) = j then 1 else 0) := by
      unfold dSt
      by_cases hj : slotN (tk + x.d) = j
      · rw [if_pos hj.symm, if_pos hj, hx1, hx2]
        have : W ((due j).getD (0 : Int).toNat 0 + 1) = (due j).getD 0 0 + 1 := W_id (by show _ ≤ (due j).getD 0 0 + 1; omega) (by show (due j).getD 0 0 + 1 ≤ _; simp only [List.length_cons] at h1; omega)
        rw [this]
        cases hd : due j with
        | nil => rw [hd] at hl; cases hl
        | cons a r => rfl
      · rw [if_neg fun e => hj e.symm, if_neg hj]; omega
    have hcn : (x :: xs).countP (fun x => decide (slotN (tk + x.d) = j)) = xs.countP (fun x => decide (slotN (tk + x.d) = j)) + if slotN (tk + x.d) = j then 1 else 0 := by
      rw [List.countP_cons]; simp
    rw [List.foldl_cons, dSt_fold xs (dSt tk due x) (fun y hy => h y (List.mem_cons_of_mem _ hy)) hlen (by rw [hv]; split <;> omega) (by rw [hv]; simp only [List.length_cons] at h1; split <;> omega), hv, hcn]
    split <;> omega
theorem pat_step {l : List Pm} {miss : Int} {q : Ste} {x : Int} (hq : 0 ≤ q.v ∧ q.v ≤ 1048576) (hr : q.rest = 0) (hx : 0 ≤ x ∧ x ≤ 1000) (_ : 1 ≤ (patP l miss).thr) : stepB (patP l miss) q x = !decide (x < (patP l miss).thr) ∧ (0 ≤ (stepS (patP l miss) q x).v ∧ (stepS (patP l miss) q x).v ≤ 1048576) ∧ (stepS (patP l miss) q x).rest = 0 := by
  have hl : leakW 2 256 q.v = 0 := by
    unfold leakW
    rw [if_neg (by decide), if_neg (by decide), W_id (a := q.v * 256) (by omega) (by omega)]
    have e : (q.v * 256).tdiv 256 = q.v := Int.mul_tdiv_cancel _ (by decide)
    rw [e, W_id (a := q.v) (by omega) (by omega), Int.sub_self]; rfl
  have hV : stepV (patP l miss) q x = x := by
    unfold stepV
    show max 0 (min 1048576 (W (W (leakW 2 256 q.v + 0) + max (-4194304) (min 4194304 x)))) = x
    rw [hl, show W ((0 : Int) + 0) = 0 from rfl, show max (-4194304) (min 4194304 x) = x by omega, W_id (by omega) (by omega)]
    omega
  unfold stepB stepS
  have hn : ¬ 0 < q.rest := by omega
  simp only [if_neg hn, hV]
  by_cases h : x < (patP l miss).thr
  · simp only [if_pos h, decide_eq_true h]
    exact ⟨rfl, by show 0 ≤ x ∧ x ≤ 1048576; omega, hr⟩
  · have hrk : ¬ (patP l miss).rk = 1 := by show ¬ (0 : Int) = 1; decide
    simp only [if_neg h, decide_eq_false h, if_neg hrk]
    exact ⟨rfl, ⟨(show (0 : Int) ≤ 0 by decide), (show (0 : Int) ≤ 1048576 by decide)⟩, rfl⟩
def hasE (l : List Evt) (t k : Int) : Bool := decide ((⟨t, k⟩ : Evt) ∈ l)
/-- How many marks are due at tick e, of events ahead of tick i. -/
def cntD (l : List Evt) (marks : List Pm) (i e : Int) : Nat := marks.countP fun m => hasE l (e - 16 + m.off) m.inp && decide (e - 16 + m.off < i)
theorem slot_inj {a b : Int} (ha : 0 ≤ a) (hb : a ≤ b) (hd : b < a + 16) (h : slotN a = slotN b) : a = b := by
  have h1 := slotN_eq ha
  have h2 := slotN_eq (show 0 ≤ b by omega)
  have e1 : a.tmod 16 = a % 16 := Int.tmod_eq_emod_of_nonneg ha
  have e2 : b.tmod 16 = b % 16 := Int.tmod_eq_emod_of_nonneg (by omega)
  omega
theorem slot_16 {a : Int} (ha : 0 ≤ a) : slotN (a + 16) = slotN a := by
  have h1 := slotN_eq ha
  have h2 := slotN_eq (show 0 ≤ a + 16 by omega)
  have e1 : a.tmod 16 = a % 16 := Int.tmod_eq_emod_of_nonneg ha
  have e2 : (a + 16).tmod 16 = (a + 16) % 16 := Int.tmod_eq_emod_of_nonneg (by omega)
  omega
/-- The states, and what is due. -/
structure PatI (l : List Evt) (marks : List Pm) (i : Nat) (s : List Ste × (Nat → List Int)) : Prop where
  st : ∃ q, s.1 = [q] ∧ (0 ≤ q.v ∧ q.v ≤ 1048576) ∧ q.rest = 0
  len : ∀ j, (s.2 j).length = 1
  due : ∀ d : Nat, d < 16 → (s.2 (slotN ((i : Int) + (d : Int)))).getD 0 0 = (cntD l marks (i : Int) ((i : Int) + (d : Int)) : Int)
section
variable {l : List Evt} {marks : List Pm} {miss P : Int} {n : Nat}
theorem cntD_le (i e : Int) : cntD l marks i e ≤ marks.length := List.countP_le_length
theorem pat_B (hp : PatOK P marks miss) {i : Nat} {s : List Ste × (Nat → List Int)} (hI : PatI l marks i s) : (nB (i : Int) [patP marks miss] s.1 s.2).2.1 = (if (cntD l marks i i : Int) < (patP marks miss).thr then [] else [0]) ∧
    ∃ q, (nB (i : Int) [patP marks miss] s.1 s.2).1 = [q] ∧ (0 ≤ q.v ∧ q.v ≤ 1048576) ∧ q.rest = 0 := by
  obtain ⟨q, h1, h2, h3⟩ := hI.st
  have hx := hI.due 0 (by decide)
  rw [show (i : Int) + ((0 : Nat) : Int) = (i : Int) by omega] at hx
  have hle := cntD_le (l := l) (marks := marks) i i
  have hl1 := hp.l1
  obtain ⟨g1, g2, g3⟩ := pat_step (l := marks) (miss := miss) (q := q) (x := (cntD l marks i i : Int)) h2 h3 (by omega) (patP_chk hp).2.1
  have e : nB (i : Int) [patP marks miss] s.1 s.2 = ([stepS (patP marks miss) q (cntD l marks i i : Int)], if stepB (patP marks miss) q (cntD l marks i i : Int) = true then ([0], addS [] 0) else ([], [])) := by
    unfold nB nL
    rw [h1]
    show nStep [patP marks miss] (s.2 (slotN (i : Int))) ([q], [], []) 0 = _
    unfold nStep
    simp only
    rw [hx]; rfl
  rw [e]
  refine ⟨?_, _, rfl, g2, g3⟩
  rw [g1]
  by_cases h : (cntD l marks i i : Int) < (patP marks miss).thr
  · rw [if_pos h, decide_eq_true h]; rfl
  · rw [if_neg h, decide_eq_false h]; rfl
theorem syn_facts (hp : PatOK P marks miss) {m : Pm} (hm : m ∈ marks) : (patY m).to = 0 ∧ (patY m).w = 1 ∧ (patY m).fr = -1 - m.inp ∧ (patY m).d = 16 - m.off ∧ 0 ≤ m.inp ∧ m.inp ≤ 255 ∧ 0 ≤ m.off ∧ m.off ≤ 15 := by
  obtain ⟨i, hi, rfl⟩ := List.getElem_of_mem hm
  have h1 := hp.mi i hi
  have h2 := hp.mo i hi
  have h3 := hp.i1
  exact ⟨rfl, rfl, W_id (by omega) (by omega), W_id (by omega) (by omega), by omega, by omega, by omega, by omega⟩
theorem pat_next (hp : PatOK P marks miss) (hw : WatOK n P l) {i : Nat} (hi : i < 10000) {s : List Ste × (Nat → List Int)} (hI : PatI l marks i s) :
    PatI l marks (i + 1) ((nB (i : Int) [patP marks miss] s.1 s.2).1, nDue (i : Int) [patP marks miss] (marks.map patY) s.1 s.2 (trIn l i)) := by
  obtain ⟨gB, q, hq1, hq2, hq3⟩ := pat_B hp hI
  obtain ⟨hin, hnd⟩ := trIn_mem hw.srt (fun x hx => (hw.rg x hx).1) i
  have h0 : ∀ j, (dClr (slotN (i : Int)) 1 s.2 j).length = 1 := fun j => by
    unfold dClr
    split
    · simp
    · exact hI.len j
  have hP := hp.i1
  have hlm := hp.l1
  -- the synapses that yield
  have hks : (List.map (fun k => W (-1 - k)) (trIn l i)).Nodup := by
    rw [List.nodup_iff_pairwise_ne, List.pairwise_map]
    refine List.Pairwise.imp_of_mem (fun {a b} ha hb h => ?_) (List.nodup_iff_pairwise_ne.1 hnd)
    have r1 := hw.rg _ ((hin a).1 ha)
    have r2 := hw.rg _ ((hin b).1 hb)
    simp only at r1 r2
    rw [W_id (by omega) (by omega), W_id (by omega) (by omega)]
    omega
  have hyl : ylS (marks.map patY) (srcK (nB (i : Int) [patP marks miss] s.1 s.2).2.1 (trIn l i)) = ylS (marks.map patY) (List.map (fun k => W (-1 - k)) (trIn l i)) := by
    unfold srcK ylS
    rw [List.flatMap_append]
    have hz : List.flatMap (synAt (marks.map patY)) (nB (i : Int) [patP marks miss] s.1 s.2).2.1 = [] := by
      rw [gB]
      split
      · rfl
      · rw [List.flatMap_cons, List.flatMap_nil, List.append_nil]
        unfold synAt
        rw [List.filter_eq_nil_iff]
        intro y hy
        obtain ⟨m, hm, rfl⟩ := List.mem_map.1 hy
        obtain ⟨_, _, k1, _, k2, _⟩ := syn_facts hp hm
        simp only [decide_eq_true_eq]
        omega
    rw [hz, List.nil_append]
  have hxs : ∀ x ∈ ylS (marks.map patY) (List.map (fun k => W (-1 - k)) (trIn l i)), x.to = 0 ∧ x.w = 1 := fun x hx => by
    obtain ⟨k, _, hk⟩ := List.mem_flatMap.1 hx
    have := (List.mem_filter.1 hk).1
    obtain ⟨m, hm, rfl⟩ := List.mem_map.1 this
    exact ⟨(syn_facts hp hm).1, (syn_facts hp hm).2.1⟩
  have hxl : (ylS (marks.map patY) (List.map (fun k => W (-1 - k)) (trIn l i))).length ≤ 64 := by
    have := ylS_count (marks.map patY) (fun _ => true) hks
    rw [List.countP_true] at this
    rw [this]
    refine Nat.le_trans List.countP_le_length ?_
    simpa using hlm
  refine ⟨⟨q, hq1, hq2, hq3⟩, fun j => ?_, fun d hd => ?_⟩
  · show (List.foldl (dSt (i : Int)) _ _ j).length = 1
    rw [dFold_len]; exact h0 j
  · obtain ⟨e, he⟩ : ∃ e : Int, ((i + 1 : Nat) : Int) + (d : Int) = e := ⟨_, rfl⟩
    rw [he]
    have he1 : (i : Int) + 1 ≤ e ∧ e ≤ (i : Int) + 16 := by omega
    show ((ylS (marks.map patY) (srcK (nB (i : Int) [patP marks miss] s.1 s.2).2.1 (trIn l i))).foldl (dSt (i : Int)) (dClr (slotN (i : Int)) 1 s.2) (slotN e)).getD 0 0 = _
    rw [hyl]
    have hbase : (dClr (slotN (i : Int)) 1 s.2 (slotN e)).getD 0 0 = (cntD l marks (i : Int) e : Int) := by
      by_cases h16 : e = (i : Int) + 16
      · have hs : slotN e = slotN (i : Int) := by rw [h16]; exact slot_16 (by omega)
        unfold dClr
        rw [if_pos hs]
        have hz : cntD l marks (i : Int) e = 0 := by
          unfold cntD
          rw [List.countP_eq_zero]
          intro m hm
          obtain ⟨_, _, _, _, _, _, k1, k2⟩ := syn_facts hp hm
          have : ¬ (e - 16 + m.off < (i : Int)) := by omega
          simp [this]
        rw [hz]; rfl
      · unfold dClr
        rw [if_neg (fun hs => by have := slot_inj (a := (i : Int)) (b := e) (by omega) (by omega) (by omega) hs.symm; omega)]
        have := hI.due (e - i).toNat (by omega)
        rw [show (i : Int) + (((e - i).toNat : Nat) : Int) = e by omega] at this
        exact this
    have hcl := cntD_le (l := l) (marks := marks) (i : Int) e
    rw [dSt_fold _ _ hxs (h0 _) (by rw [hbase]; omega) (by rw [hbase]; omega), hbase, ylS_count _ _ hks, List.countP_map]
    have hadd : cntD l marks (i : Int) e + marks.countP ((fun s : Syn => decide (slotN ((i : Int) + s.d) = slotN e) && decide (s.fr ∈ List.map (fun k => W (-1 - k)) (trIn l i))) ∘ patY) = cntD l marks ((i + 1 : Nat) : Int) e := by
      unfold cntD
      refine countP_add fun m hm => ?_
      obtain ⟨_, _, f1, f2, f3, f4, f5, f6⟩ := syn_facts hp hm
      have hslot : slotN ((i : Int) + (patY m).d) = slotN e ↔ e - 16 + m.off = (i : Int) := by
        rw [f2]
        constructor
        · intro h
          rcases Int.le_total ((i : Int) + (16 - m.off)) e with hle | hle
          · have := slot_inj (by omega) hle (by omega) h; omega
          · have := slot_inj (by omega) hle (by omega) h.symm; omega
        · intro h; rw [show (i : Int) + (16 - m.off) = e by omega]
      have hfr : (patY m).fr ∈ List.map (fun k => W (-1 - k)) (trIn l i) ↔ (⟨(i : Int), m.inp⟩ : Evt) ∈ l := by
        rw [f1, ← hin]
        constructor
        · intro h
          obtain ⟨k, hk, hke⟩ := List.mem_map.1 h
          have r1 := hw.rg _ ((hin k).1 hk)
          simp only at r1
          rw [W_id (by omega) (by omega)] at hke
          rw [show m.inp = k by omega]; exact hk
        · intro h
          exact List.mem_map.2 ⟨_, h, W_id (by omega) (by omega)⟩
      by_cases c1 : e - 16 + m.off = (i : Int)
      · have a1 : ¬ (e - 16 + m.off < (i : Int)) := by omega
        have a2 : e - 16 + m.off < ((i + 1 : Nat) : Int) := by omega
        simp only [Function.comp, hslot.2 c1, decide_true, Bool.true_and, hfr, hasE, c1]
        have a3 : (i : Int) < ((i + 1 : Nat) : Int) := by omega
        simp only [a3, decide_true, Bool.and_true]
        simp
      · have a1 : (e - 16 + m.off < ((i + 1 : Nat) : Int)) ↔ (e - 16 + m.off < (i : Int)) := by omega
        have a2 : ¬ slotN ((i : Int) + (patY m).d) = slotN e := fun h => c1 (hslot.1 h)
        simp only [Function.comp, a2, decide_false, Bool.false_and, a1]
        simp
    omega
theorem pat_inv (hp : PatOK P marks miss) (hw : WatOK n P l) : ∀ i : Nat, i ≤ 10000 → PatI l marks i (nS ⟨[patP marks miss], P, marks.map patY⟩ l i)
  | 0, _ => by
    refine ⟨⟨ste0, rfl, by decide, rfl⟩, fun j => rfl, fun d hd => ?_⟩
    have hz : cntD l marks ((0 : Nat) : Int) (((0 : Nat) : Int) + (d : Int)) = 0 := by
      unfold cntD
      rw [List.countP_eq_zero]
      intro m hm
      by_cases h : (((0 : Nat) : Int) + (d : Int)) - 16 + m.off < ((0 : Nat) : Int)
      · have : hasE l ((((0 : Nat) : Int) + (d : Int)) - 16 + m.off) m.inp = false := by
          unfold hasE
          refine decide_eq_false fun hm2 => ?_
          have := (hw.rg _ hm2).1
          simp only at this
          omega
        rw [this]; simp
      · rw [decide_eq_false h]; simp
    rw [hz]; rfl
  | i + 1, hi => pat_next hp hw (by omega) (pat_inv hp hw i (by omega))
theorem evM_mem (l : List Evt) (t k : Int) : ∀ i, i ≤ l.length → ((kget (evM l i) (.p t k)).isSome = true ↔ (⟨t, k⟩ : Evt) ∈ l.take i)
  | 0, _ => by simp [evM, kget]
  | i + 1, hi => by
    have ih := evM_mem l t k i (by omega)
    have hg : l.getD i evt0 = l[i] := by simp [List.getD_eq_getElem?_getD, show i < l.length from hi]
    have e : evM l (i + 1) = kput (evM l i) (.p l[i].tick l[i].id) (.bool true) := by show kput _ (.p (l.getD i evt0).tick (l.getD i evt0).id) _ = _; rw [hg]
    rw [e, ← List.take_append_getElem (show i < l.length from hi)]
    by_cases hk : (Key.p t k) = .p l[i].tick l[i].id
    · rw [hk, kget_put_same]
      have : (⟨t, k⟩ : Evt) = l[i] := by cases hx : l[i]; rw [hx] at hk; simp at hk; simp [hk]
      rw [this]
      exact ⟨fun _ => List.mem_append_right _ List.mem_cons_self, fun _ => rfl⟩
    · rw [kget_put_other _ _ _ _ hk, ih]
      have : (⟨t, k⟩ : Evt) ≠ l[i] := fun h => hk (by rw [← h])
      rw [List.mem_append, List.mem_singleton]
      exact ⟨.inl, fun h => h.resolve_right this⟩
theorem cntT_eq (hp : PatOK P marks miss) {t : Int} (ht : -100000 ≤ t ∧ t ≤ 100000) : ∀ j, j ≤ marks.length → cntT l marks t j = (((marks.take j).countP fun m => hasE l (t + m.off) m.inp : Nat) : Int)
  | 0, _ => rfl
  | j + 1, hj => by
    have ih := cntT_eq hp ht j (by omega)
    have hg : marks.getD j pm0 = marks[j] := by simp [List.getD_eq_getElem?_getD, show j < marks.length from hj]
    have ho := hp.mo j hj
    have hle : (marks.take j).countP (fun m => hasE l (t + m.off) m.inp) ≤ 64 := Nat.le_trans List.countP_le_length (by have := hp.l1; simp; omega)
    rw [← List.take_append_getElem (show j < marks.length from hj), List.countP_append, List.countP_singleton]
    unfold cntT
    rw [hg, ih, W_id (a := t + marks[j].off) (by omega) (by omega)]
    have hm := evM_mem l (t + marks[j].off) marks[j].inp l.length (Nat.le_refl _)
    rw [List.take_length] at hm
    by_cases h : (⟨t + marks[j].off, marks[j].inp⟩ : Evt) ∈ l
    · have hh : hasE l (t + marks[j].off) marks[j].inp = true := decide_eq_true h
      rw [if_pos (hm.2 h), hh, W_id (by omega) (by omega), if_pos rfl]
      omega
    · have hh : hasE l (t + marks[j].off) marks[j].inp = false := decide_eq_false h
      rw [if_neg (fun hh => h (hm.1 hh)), hh]
      simp
theorem hit_eq (hp : PatOK P marks miss) {i : Nat} (hi : i ≤ 10000) : hitT l marks miss i = !decide ((cntD l marks i i : Int) < (patP marks miss).thr) := by
  unfold hitT
  rw [cntT_eq hp (by omega) marks.length (Nat.le_refl _), List.take_length]
  have e : (marks.countP fun m => hasE l ((i : Int) - 16 + m.off) m.inp) = cntD l marks i i := by
    unfold cntD
    refine List.countP_congr fun m hm => ?_
    obtain ⟨_, _, _, _, _, _, _, k2⟩ := syn_facts hp hm
    have : (i : Int) - 16 + m.off < (i : Int) := by omega
    simp [this]
  rw [e]; rfl
theorem pat_spk (hp : PatOK P marks miss) (hw : WatOK n P l) {i : Nat} (hi : i ≤ 10000) : nO ⟨[patP marks miss], P, marks.map patY⟩ l (i + 1) = nO ⟨[patP marks miss], P, marks.map patY⟩ l i ++ if hitT l marks miss i = true then [⟨(i : Int), 0⟩] else [] := by
  have h1 : nSp ⟨[patP marks miss], P, marks.map patY⟩ l i = if (cntD l marks i i : Int) < (patP marks miss).thr then [] else [0] := (pat_B hp (pat_inv hp hw i hi)).1
  show nO _ l i ++ spk (i : Int) (nSp _ l i) = _
  rw [h1, hit_eq hp hi]
  by_cases h : (cntD l marks i i : Int) < (patP marks miss).thr
  · rw [if_pos h, decide_eq_true h]; rfl
  · rw [if_neg h, decide_eq_false h]; rfl
theorem pat_sp (hp : PatOK P marks miss) (hw : WatOK n P l) {N : Nat} (hN : N ≤ 10000) : SpOK l marks miss N (nO ⟨[patP marks miss], P, marks.map patY⟩ l N) := by
  obtain ⟨F, hF⟩ : ∃ F, nO ⟨[patP marks miss], P, marks.map patY⟩ l = F := ⟨_, rfl⟩
  have hs : ∀ i, i ≤ 10000 → F (i + 1) = F i ++ if hitT l marks miss i = true then [⟨(i : Int), 0⟩] else [] := fun i hi => by rw [← hF]; exact pat_spk hp hw hi
  have h0 : F 0 = [] := by rw [← hF]; rfl
  rw [hF]
  have hlen : ∀ i, i ≤ 10000 → (F i).length = hitN l marks miss i := fun i => by
    induction i with
    | zero => intro _; rw [h0]; rfl
    | succ i ih =>
      intro hi
      rw [hs i (by omega), List.length_append, ih (by omega)]
      show _ = if hitT l marks miss i = true then hitN l marks miss i + 1 else hitN l marks miss i
      split <;> simp
  have hpre : ∀ i j, i ≤ j → j ≤ 10000 → ∃ Q, F j = F i ++ Q := fun i j => by
    induction j with
    | zero => intro h _; obtain rfl : i = 0 := (by omega); exact ⟨[], by simp⟩
    | succ j ih =>
      intro h hj
      rcases Nat.lt_or_ge i (j + 1) with h1 | h1
      · obtain ⟨Q, hQ⟩ := ih (by omega) (by omega)
        exact ⟨Q ++ if hitT l marks miss j = true then [⟨(j : Int), 0⟩] else [], by rw [hs j (by omega), hQ, List.append_assoc]⟩
      · obtain rfl : i = j + 1 := (by omega)
        exact ⟨[], by simp⟩
  refine ⟨hlen N hN, fun i hi hh => ?_⟩
  obtain ⟨Q, hQ⟩ := hpre (i + 1) N (by omega) hN
  rw [hQ, hs i (by omega), if_pos hh, ← hlen i (by omega), List.append_assoc, List.getD_eq_getElem?_getD, List.getElem?_append_right (Nat.le_refl _), Nat.sub_self]
  rfl
end
/-- What is plain of a camera's events and a pattern. -/
theorem seenT : SeenT := by
  intro c fs marks miss hc hcw hch hf h0 h1 hp
  obtain ⟨e1, e2, e3, e4, e5, _⟩ := small_pix hc hcw hch
  have hw := watch_ok (fun f hf' => (hf f hf').len) e3 h1
  rw [e4] at hp ⊢
  obtain ⟨pos, mid, q1, q2, hu⟩ := hw.unp (by omega) (by omega)
  exact ⟨pos, mid, q1, q2, hw.stream (by omega) (by omega), hu, pat_prep hp hw (by omega) (by omega), pat_sp hp hw (by omega)⟩
end Go.Proofs.Ythaigkamfnjfbaa
