/-
  Walks of the functions of package ganglionref01 (part F): 'number', 'Unpack': what they compute.
  For every list of bytes; the world only gets new blocks.
-/
import Derived.Test.YtoipnojibkjjnaaRefE
namespace Go.Proofs.Ytoipnojibkjjnaa
open Go.Sx
set_option maxRecDepth 100000

def rsum (x y z : Int) : Int := W (W (W (65536 * W x) + W (256 * W y)) + W z)
def rnum (x y z : Int) : Int := if 8388608 ≤ rsum x y z then W (rsum x y z - 16777216) else rsum x y z
theorem rnum_eq {x y z : Int} (hx : Byte x) (hy : Byte y) (hz : Byte z) : rnum x y z = num3 x y z := by
  rw [num3_eq hx hy hz]
  unfold Byte at hx hy hz
  have e : rsum x y z = 65536 * x + 256 * y + z := by
    unfold rsum
    rw [W_id (a := x) (by omega) (by omega), W_id (a := y) (by omega) (by omega), W_id (a := z) (by omega) (by omega), W_id (a := 65536 * x) (by omega) (by omega), W_id (a := 256 * y) (by omega) (by omega),
      W_id (a := 65536 * x + 256 * y) (by omega) (by omega), W_id (by omega) (by omega)]
  unfold rnum
  rw [e]
  split
  · rw [W_id (by omega) (by omega)]; omega
  · omega
theorem number_run (b o len cap : Nat) (x y z : Int) (hl : 3 ≤ len) (w : World) (hb : b < w.heap.size) (h1 : ∀ j v, ([x, y, z].map fun x => Value.int .u8 x)[j]? = some v → w.cell? ⟨b, o + j, none⟩ = some v) :
    Calls Try.prog 52 #[.slice (some ⟨b, o, none⟩) len cap] w fun e w' => e = .returned (.int .i64 (rnum x y z)) ∧ Ext w w' := by
  have hc : ∀ f fn cuts L, Try.prog.funcs[f]? = some fn → Cx.ok ⟨Try.prog, tab, [], f, fn, cuts, w, L, none⟩ := fun f fn cuts L h => ⟨tab_ok, trivial, h, mixed, fun _ h => by cases h⟩
  have hW0 := one_start hb h1
  have ha : #[.slice (some ⟨b, o, none⟩) len cap] = (SV.concs (env2 b o b o) [.slc 0 0 len cap]).toArray := by simp [SV.concs, SV.conc, env2]
  rw [ha]
  refine Run.calls (tab := tab) (pf := []) (cuts := []) Try.func52 rfl (env2 b o b o) [.slc 0 0 len cap] _ 1 (by simp [SV.scs, SV.sc]) rfl hW0 (Run.of_wpK (hc _ _ _ _ Try.func52) 2000 _ ?_)
  conv => whnf
  refine Run.draw (hc _ _ _ _ Try.func52) 16 ?_
  conv => whnf
  refine ⟨by omega, ?_⟩
  conv => whnf
  refine ⟨by omega, ?_⟩
  conv => whnf
  refine ⟨by omega, ?_⟩
  conv => whnf
  refine ⟨by kernel_rfl, ?_⟩
  refine Run.of_wpK (hc _ _ _ _ Try.func52) 1000 _ ?_
  conv => whnf
  rw [show decide (8388608 ≤ IntKind.i64.wrap (IntKind.i64.wrap (IntKind.i64.wrap (65536 * IntKind.i64.wrap x) + IntKind.i64.wrap (256 * IntKind.i64.wrap y)) + IntKind.i64.wrap z)) = decide (8388608 ≤ rsum x y z) from rfl]
  cases h : decide (8388608 ≤ rsum x y z)
  · have hd := of_decide_eq_false h
    conv => whnf
    unfold rnum
    rw [if_neg hd]
    exact ⟨fun ρ w' hW _ => ⟨rfl, hW.toExt⟩⟩
  · have hd := of_decide_eq_true h
    conv => whnf
    unfold rnum
    rw [if_pos hd]
    exact ⟨fun ρ w' hW _ => ⟨rfl, hW.toExt⟩⟩
def numF (M : Mem) : List SV → Option (List Nat × SV)
  | [.slc b off len _] => match M b with
    | some (.win vs) => match Nat.ble 3 len with
      | true => match Sx.get vs off with
        | some (.int .u8 x) => match Sx.get vs (off + 1) with
          | some (.int .u8 y) => match Sx.get vs (off + 2) with
            | some (.int .u8 z) => some ([b], .v (.int .i64 (rnum x y z)))
            | _ => none
          | _ => none
        | _ => none
      | false => none
    | _ => none
  | _ => none
theorem numF_some {M : Mem} {args : List SV} {bs : List Nat} {v : SV} (h : numF M args = some (bs, v)) : ∃ b off len cap vs x y z, args = [.slc b off len cap] ∧ M b = some (.win vs) ∧ 3 ≤ len ∧ Sx.get vs off = some (.int .u8 x) ∧ Sx.get vs (off + 1) = some (.int .u8 y) ∧ Sx.get vs (off + 2) = some (.int .u8 z) ∧ bs = [b] ∧ v = .v (.int .i64 (rnum x y z)) := by
  unfold numF at h
  split at h
  case h_2 => cases h
  rename_i b off len cap
  split at h
  case h_2 => cases h
  rename_i vs hM
  split at h
  case h_2 => cases h
  rename_i hl
  split at h
  case h_2 => cases h
  rename_i x hx
  split at h
  case h_2 => cases h
  rename_i y hy
  split at h
  case h_2 => cases h
  rename_i z hz
  obtain ⟨rfl, rfl⟩ := Prod.mk.inj (Option.some.inj h)
  exact ⟨b, off, len, cap, vs, x, y, z, rfl, hM, Nat.le_of_ble_eq_true hl, hx, hy, hz, rfl, rfl⟩
theorem number_pure : Pure Try.prog 52 numF where
  ent := ent _ _ Try.func52 (by kernel_rfl) rfl
  sc S M args bs v hv _ := by
    obtain ⟨_, _, _, _, _, _, _, _, _, _, _, _, _, _, _, rfl⟩ := numF_some hv
    trivial
  cong M M' args bs v hv hM := by
    obtain ⟨b, off, len, cap, vs, x, y, z, rfl, h1, h2, h3, h4, h5, rfl, rfl⟩ := numF_some hv
    have hb : M' b = M b := hM b (by simp)
    rw [h1] at hb
    rw [← hv]
    simp only [numF, hb, h1]
  run w0 L ρ M S args bs v w hW hv := by
    obtain ⟨b, off, len, cap, vs, x, y, z, rfl, h1, h2, h3, h4, h5, rfl, rfl⟩ := numF_some hv
    have hb : ρ.s b < w.heap.size := by
      obtain ⟨_, _, h6, _⟩ := hW.mem b _ h1
      exact Nat.lt_of_lt_of_le h6 hW.size
    have := number_run (ρ.s b) (ρ.o b + off) len cap x y z h2 w hb (fun j v hj => by
      match j, hj with
      | 0, hj => obtain rfl := Option.some.inj hj; exact hW.winCell h1 h3
      | 1, hj => obtain rfl := Option.some.inj hj; rw [Nat.add_assoc]; exact hW.winCell h1 h4
      | 2, hj => obtain rfl := Option.some.inj hj; rw [Nat.add_assoc]; exact hW.winCell h1 h5)
    simp only [SV.concs, SV.conc]
    exact this

theorem rUnpack_run (v : Value) (bs : List Int) (w : World) (hr : RowAt w v (bs.map fun x => .int .u8 x)) (hby : ∀ b ∈ bs, Byte b) (hcap : ∃ p len cap, v = .slice p len cap ∧ len ≤ cap) : Calls Try.prog 34 #[v] w (PrmPost (upR bs) w) := by
  obtain ⟨ck, hck⟩ : ∃ ck : Prm → Int, chk = ck := ⟨chk, rfl⟩
  have hpf : PF.oks Try.prog [(25, FP fun p => .int .i64 (ck p)), (52, numF)] := by rw [← hck]; exact ⟨rcheck_pure, number_pure, trivial⟩
  have hc : ∀ f fn cuts L, Try.prog.funcs[f]? = some fn → Cx.ok ⟨Try.prog, tab, [(25, FP fun p => .int .i64 (ck p)), (52, numF)], f, fn, cuts, w, L, none⟩ := fun f fn cuts L h => ⟨tab_ok, hpf, h, mixed, fun _ h => by cases h⟩
  unfold upR
  rw [hck]
  by_cases h17 : bs.length = 17
  · have hx0 : bs ≠ [] := by rintro rfl; cases h17
    have hb := fun k => hr.blk (by simpa using hx0) (k := k)
    rcases hr with ⟨_, h⟩ | ⟨blk, off, cap, rfl, h1⟩
    · exact absurd h (by simpa using hx0)
    have hW0 := one_start (hb blk rfl) h1
    have hl0 : (bs.map fun x => Value.int .u8 x).length = 17 := by simpa using h17
    rw [hl0] at hcap ⊢
    have hcap : 17 ≤ cap := by
      obtain ⟨_, _, _, h, hle⟩ := hcap
      simp only [Value.slice.injEq] at h
      omega
    have ha : #[.slice (some ⟨blk, off, none⟩) 17 cap] = (SV.concs (env2 blk off blk off) [.slc 0 0 17 cap]).toArray := by simp [SV.concs, SV.conc, env2]
    rw [ha, if_neg (by omega), if_neg (by omega)]
    obtain ⟨b0, b1, b2, b3, b4, b5, b6, b7, b8, b9, b10, b11, b12, b13, b14, b15, b16, rfl⟩ : ∃ b0 b1 b2 b3 b4 b5 b6 b7 b8 b9 b10 b11 b12 b13 b14 b15 b16 : Int, bs = [b0, b1, b2, b3, b4, b5, b6, b7, b8, b9, b10, b11, b12, b13, b14, b15, b16] := by
      match bs, h17 with
      | [b0, b1, b2, b3, b4, b5, b6, b7, b8, b9, b10, b11, b12, b13, b14, b15, b16], _ => exact ⟨_, _, _, _, _, _, _, _, _, _, _, _, _, _, _, _, _, rfl⟩
    refine Run.calls (tab := tab) (pf := [(25, FP fun p => .int .i64 (ck p)), (52, numF)]) (cuts := []) Try.func34 rfl (env2 blk off blk off) [.slc 0 0 17 cap] _ 1 (by simp [SV.scs, SV.sc]) rfl hW0 (Run.of_wpK (hc _ _ _ _ Try.func34) 2000 _ ?_)
    conv => whnf
    refine Run.draw (hc _ _ _ _ Try.func34) 31 ?_
    conv => whnf
    repeat (refine ⟨by omega, ?_⟩; conv => whnf)
    refine ⟨by kernel_rfl, ?_⟩
    have hE : upP [b0, b1, b2, b3, b4, b5, b6, b7, b8, b9, b10, b11, b12, b13, b14, b15, b16] = ⟨(IntKind.i64.wrap b0).tmod 4, rnum b1 b2 b3, rnum b4 b5 b6, rnum b7 b8 b9, IntKind.i64.wrap ((IntKind.i64.wrap b0).tdiv 4), rnum b10 b11 b12, rnum b13 b14 b15, IntKind.i64.wrap b16⟩ := by
      have q0 := hby b0 (by simp)
      obtain ⟨q1, q2⟩ := q0
      have e1 : qlo b0 = (IntKind.i64.wrap b0).tmod 4 := by
        rw [qlo_eq ⟨q1, q2⟩, show IntKind.i64.wrap b0 = b0 from W_id (by omega) (by omega), Int.tmod_eq_emod_of_nonneg q1]
      have e2 : qhi b0 = IntKind.i64.wrap ((IntKind.i64.wrap b0).tdiv 4) := by
        rw [qhi_eq ⟨q1, q2⟩, show IntKind.i64.wrap b0 = b0 from W_id (by omega) (by omega), Int.tdiv_eq_ediv_of_nonneg q1]
        exact (W_id (by omega) (by omega)).symm
      show (⟨qlo b0, num3 b1 b2 b3, num3 b4 b5 b6, num3 b7 b8 b9, qhi b0, num3 b10 b11 b12, num3 b13 b14 b15, IntKind.i64.wrap b16⟩ : Prm) = _
      rw [e1, e2, ← rnum_eq (hby b1 (by simp)) (hby b2 (by simp)) (hby b3 (by simp)), ← rnum_eq (hby b4 (by simp)) (hby b5 (by simp)) (hby b6 (by simp)), ← rnum_eq (hby b7 (by simp)) (hby b8 (by simp)) (hby b9 (by simp)),
        ← rnum_eq (hby b10 (by simp)) (hby b11 (by simp)) (hby b12 (by simp)), ← rnum_eq (hby b13 (by simp)) (hby b14 (by simp)) (hby b15 (by simp))]
    rw [hE]
    refine Run.of_wpK (hc _ _ _ _ Try.func34) 1000 _ ?_
    conv => whnf
    cases hv : ck ⟨(IntKind.i64.wrap b0).tmod 4, rnum b1 b2 b3, rnum b4 b5 b6, rnum b7 b8 b9, IntKind.i64.wrap ((IntKind.i64.wrap b0).tdiv 4), rnum b10 b11 b12, rnum b13 b14 b15, IntKind.i64.wrap b16⟩ != 0
    · have h0 : ck ⟨(IntKind.i64.wrap b0).tmod 4, rnum b1 b2 b3, rnum b4 b5 b6, rnum b7 b8 b9, IntKind.i64.wrap ((IntKind.i64.wrap b0).tdiv 4), rnum b10 b11 b12, rnum b13 b14 b15, IntKind.i64.wrap b16⟩ = 0 := by simpa using hv
      rw [if_pos h0]
      conv => whnf
      exact ⟨fun ρ w' hW _ => ⟨rfl, hW.toExt⟩⟩
    · have h0 : ¬ ck ⟨(IntKind.i64.wrap b0).tmod 4, rnum b1 b2 b3, rnum b4 b5 b6, rnum b7 b8 b9, IntKind.i64.wrap ((IntKind.i64.wrap b0).tdiv 4), rnum b10 b11 b12, rnum b13 b14 b15, IntKind.i64.wrap b16⟩ = 0 := by simpa using hv
      rw [if_neg h0]
      conv => whnf
      exact ⟨fun ρ w' hW _ => ⟨rfl, hW.toExt⟩⟩
  · obtain ⟨pp, cap, rfl⟩ := hr.len
    rw [List.length_map]
    refine Run.start0 (tab := tab) (pf := [(25, FP fun p => .int .i64 (ck p)), (52, numF)]) (cuts := []) mixed tab_ok hpf Try.func34 rfl [.v (.slice pp bs.length cap)] 1000 (by simp [SV.scs, SV.sc]) rfl ?_
    conv => whnf
    cases h2 : decide ((bs.length : Int) < 17)
    · have h2 := of_decide_eq_false h2
      rw [if_neg (by omega), if_pos (by omega)]
      conv => whnf
      cases h3 : decide (17 < (bs.length : Int))
      · have h3 := of_decide_eq_false h3
        omega
      · conv => whnf
        exact ⟨fun ρ w' hW _ => ⟨rfl, hW.toExt⟩⟩
    · have h2 := of_decide_eq_true h2
      rw [if_pos (by omega)]
      conv => whnf
      exact ⟨fun ρ w' hW _ => ⟨rfl, hW.toExt⟩⟩
end Go.Proofs.Ytoipnojibkjjnaa
