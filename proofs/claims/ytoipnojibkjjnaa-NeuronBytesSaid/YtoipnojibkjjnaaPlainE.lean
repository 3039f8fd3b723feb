/-
  Plain laws of neurons: bytes: what is packed is unpacked; what is unpacked is packed.
  For every neuron without error; for every list of bytes.
-/
import Derived.Test.YtoipnojibkjjnaaNeuN
import Derived.Test.YtoipnojibkjjnaaPlain
namespace Go.Proofs.Ytoipnojibkjjnaa
open Go.Sx

theorem U8_eq (n : Int) : U8 n = n % 256 := IntKind.wrap_u8 n
theorem fdiv_pos (n : Int) {d : Int} (hd : 0 ≤ d) : n.fdiv d = n / d := Int.fdiv_eq_ediv_of_nonneg n hd
theorem or256 (m b : Int) (h1 : 0 ≤ b) (h2 : b < 256) (hm : -1099511627776 ≤ m ∧ m ≤ 1099511627776) : bitI .or .i64 (256 * m) b = 256 * m + b := by
  have e : ∀ x : Int, (BitVec.ofInt 64 x).toNat = (x % 18446744073709551616).toNat := fun x => by rw [BitVec.toNat_ofInt]; rfl
  show IntKind.i64.wrap (((BitVec.ofInt 64 (256 * m)) ||| (BitVec.ofInt 64 b)).toNat : Int) = _
  rw [BitVec.toNat_or, e, e]
  have e1 : ((256 * m) % 18446744073709551616).toNat = (((256 * m) % 18446744073709551616).toNat / 256) <<< 8 := by rw [Nat.shiftLeft_eq]; omega
  rw [e1, ← Nat.shiftLeft_add_eq_or_of_lt (by omega), ← e1]
  show W _ = _
  rw [W_eq]; omega
theorem or65536 (m b : Int) (h1 : 0 ≤ b) (h2 : b < 65536) (hm : -1099511627776 ≤ m ∧ m ≤ 1099511627776) : bitI .or .i64 (65536 * m) b = 65536 * m + b := by
  have e : ∀ x : Int, (BitVec.ofInt 64 x).toNat = (x % 18446744073709551616).toNat := fun x => by rw [BitVec.toNat_ofInt]; rfl
  show IntKind.i64.wrap (((BitVec.ofInt 64 (65536 * m)) ||| (BitVec.ofInt 64 b)).toNat : Int) = _
  rw [BitVec.toNat_or, e, e]
  have e1 : ((65536 * m) % 18446744073709551616).toNat = (((65536 * m) % 18446744073709551616).toNat / 65536) <<< 16 := by rw [Nat.shiftLeft_eq]; omega
  rw [e1, ← Nat.shiftLeft_add_eq_or_of_lt (by omega), ← e1]
  show W _ = _
  rw [W_eq]; omega
def Byte (x : Int) : Prop := 0 ≤ x ∧ x < 256
theorem wrap_i8 (n : Int) : IntKind.i8.wrap n = (n + 128) % 256 - 128 := by
  simp only [IntKind.wrap, IntKind.bits, IntKind.signed]
  simp
  split <;> omega
theorem num3_eq {x y z : Int} (hx : Byte x) (hy : Byte y) (hz : Byte z) : num3 x y z = ((x + 128) % 256 - 128) * 65536 + y * 256 + z := by
  obtain ⟨x1, x2⟩ := hx
  obtain ⟨y1, y2⟩ := hy
  obtain ⟨z1, z2⟩ := hz
  unfold num3
  rw [show IntKind.i8.wrap x = (x + 128) % 256 - 128 from wrap_i8 x]
  generalize hs : (x + 128) % 256 - 128 = s
  have e1 : IntKind.i64.wrap (IntKind.i64.wrap s * 2 ^ min (Int.toNat 16) IntKind.i64.bits) = 65536 * s := by
    show W (W s * 65536) = _
    rw [W_id (a := s) (by omega) (by omega), W_id (by omega) (by omega)]; omega
  have e2 : IntKind.i64.wrap (IntKind.i64.wrap y * 2 ^ min (Int.toNat 8) IntKind.i64.bits) = 256 * y := by
    show W (W y * 256) = _
    rw [W_id (a := y) (by omega) (by omega), W_id (by omega) (by omega)]; omega
  have e3 : IntKind.i64.wrap z = z := W_id (by omega) (by omega)
  rw [e1, e2, e3, or65536 s (256 * y) (by omega) (by omega) (by omega), show 65536 * s + 256 * y = 256 * (256 * s + y) by omega, or256 _ z (by omega) (by omega) (by omega)]
  omega
theorem U8_byte (n : Int) : Byte (U8 n) := by rw [U8_eq]; constructor <;> omega
theorem U8_id {x : Int} (h : Byte x) : U8 x = x := by rw [U8_eq]; unfold Byte at h; omega
theorem num3_three {n : Int} (h : -1048576 ≤ n ∧ n ≤ 1048576) : num3 (U8 (n.fdiv 65536)) (U8 (n.fdiv 256)) (U8 n) = n := by
  rw [num3_eq (U8_byte _) (U8_byte _) (U8_byte _), U8_eq, U8_eq, U8_eq, fdiv_pos n (by decide), fdiv_pos n (by decide)]
  omega
theorem three_num3 {x y z : Int} (hx : Byte x) (hy : Byte y) (hz : Byte z) : three3 (num3 x y z) = [x, y, z] := by
  rw [num3_eq hx hy hz]
  unfold three3
  rw [U8_eq, U8_eq, U8_eq, fdiv_pos _ (by decide), fdiv_pos _ (by decide)]
  unfold Byte at hx hy hz
  rw [show (((x + 128) % 256 - 128) * 65536 + y * 256 + z) / 65536 % 256 = x by omega, show (((x + 128) % 256 - 128) * 65536 + y * 256 + z) / 256 % 256 = y by omega, show (((x + 128) % 256 - 128) * 65536 + y * 256 + z) % 256 = z by omega]
theorem qlo_eq {b : Int} (h : Byte b) : qlo b = b % 4 := by
  obtain ⟨h1, h2⟩ := h
  unfold qlo
  have e : ∀ x : Int, (BitVec.ofInt 8 x).toNat = (x % 256).toNat := fun x => by rw [BitVec.toNat_ofInt]; rfl
  have e2 : bitI BinOp.and IntKind.u8 b 3 = b % 4 := by
    show U8 (((BitVec.ofInt 8 b) &&& (BitVec.ofInt 8 3)).toNat : Int) = _
    rw [BitVec.toNat_and, e, e, show ((3 : Int) % 256).toNat = 2 ^ 2 - 1 from rfl, Nat.and_two_pow_sub_one_eq_mod, U8_eq]
    omega
  rw [e2]
  exact W_id (by omega) (by omega)
theorem qhi_eq {b : Int} (h : Byte b) : qhi b = b / 4 := by
  obtain ⟨h1, h2⟩ := h
  unfold qhi
  show W (b.fdiv 4) = _
  rw [fdiv_pos _ (by decide)]
  exact W_id (by omega) (by omega)
theorem pk_eq (p : Prm) : pk p = [U8 (W (p.lk + W (4 * p.rk))), U8 (p.leak.fdiv 65536), U8 (p.leak.fdiv 256), U8 p.leak, U8 (p.bias.fdiv 65536), U8 (p.bias.fdiv 256), U8 p.bias, U8 (p.thr.fdiv 65536), U8 (p.thr.fdiv 256), U8 p.thr,
    U8 (p.reset.fdiv 65536), U8 (p.reset.fdiv 256), U8 p.reset, U8 (p.floor.fdiv 65536), U8 (p.floor.fdiv 256), U8 p.floor, U8 p.rest] := rfl
theorem pk_length (p : Prm) : (pk p).length = 17 := rfl
theorem upP_pk {p : Prm} (h : chk p = 0) : upP (pk p) = p := by
  have g := chk_good.1 h
  have hb := U8_byte (W (p.lk + W (4 * p.rk)))
  have hw : W (p.lk + W (4 * p.rk)) = p.lk + 4 * p.rk := by
    have := g.lk; have := g.reset
    rw [W_id (a := 4 * p.rk) (by omega) (by omega), W_id (by omega) (by omega)]
  have g1 := g.lk; have g2 := g.reset; have g3 := g.rest; have g4 := g.floor; have g5 := g.thr
  have e1 : qlo (U8 (W (p.lk + W (4 * p.rk)))) = p.lk := by rw [qlo_eq hb, U8_eq, hw]; omega
  have e2 : qhi (U8 (W (p.lk + W (4 * p.rk)))) = p.rk := by rw [qhi_eq hb, U8_eq, hw]; omega
  have e3 : W (U8 p.rest) = p.rest := by rw [U8_eq, W_id (by omega) (by omega)]; omega
  show (⟨qlo (U8 (W (p.lk + W (4 * p.rk)))), num3 (U8 (p.leak.fdiv 65536)) (U8 (p.leak.fdiv 256)) (U8 p.leak), num3 (U8 (p.bias.fdiv 65536)) (U8 (p.bias.fdiv 256)) (U8 p.bias), num3 (U8 (p.thr.fdiv 65536)) (U8 (p.thr.fdiv 256)) (U8 p.thr),
    qhi (U8 (W (p.lk + W (4 * p.rk)))), num3 (U8 (p.reset.fdiv 65536)) (U8 (p.reset.fdiv 256)) (U8 p.reset), num3 (U8 (p.floor.fdiv 65536)) (U8 (p.floor.fdiv 256)) (U8 p.floor), W (U8 p.rest)⟩ : Prm) = p
  rw [e1, e2, e3, num3_three (n := p.leak) (by omega), num3_three (n := p.bias) g.bias, num3_three (n := p.thr) (by omega), num3_three (n := p.reset) (by omega), num3_three (n := p.floor) (by omega)]
theorem upR_pk {p : Prm} (h : chk p = 0) : upR (pk p) = (p, 0) := by
  unfold upR
  rw [upP_pk h, pk_length, if_neg (by omega), if_neg (by omega), if_pos h]
theorem pk_upP {bs : List Int} (hb : ∀ b ∈ bs, Byte b) (hl : bs.length = 17) : pk (upP bs) = bs := by
  match bs, hl with
  | [b0, b1, b2, b3, b4, b5, b6, b7, b8, b9, b10, b11, b12, b13, b14, b15, b16], _ =>
    have h0 : Byte b0 := hb _ (by simp)
    have h16 : Byte b16 := hb _ (by simp)
    have e0 : U8 (W (qlo b0 + W (4 * qhi b0))) = b0 := by
      rw [qlo_eq h0, qhi_eq h0]
      have := h0.1; have := h0.2
      rw [W_id (a := 4 * (b0 / 4)) (by omega) (by omega), W_id (by omega) (by omega), show b0 % 4 + 4 * (b0 / 4) = b0 by omega]
      exact U8_id h0
    have e16 : U8 (W b16) = b16 := by
      have := h16.1; have := h16.2
      rw [W_id (by omega) (by omega)]; exact U8_id h16
    show [U8 (W (qlo b0 + W (4 * qhi b0)))] ++ three3 (num3 b1 b2 b3) ++ three3 (num3 b4 b5 b6) ++ three3 (num3 b7 b8 b9) ++ three3 (num3 b10 b11 b12) ++ three3 (num3 b13 b14 b15) ++ [U8 (W b16)] = _
    rw [e0, e16, three_num3 (hb b1 (by simp)) (hb b2 (by simp)) (hb b3 (by simp)), three_num3 (hb b4 (by simp)) (hb b5 (by simp)) (hb b6 (by simp)), three_num3 (hb b7 (by simp)) (hb b8 (by simp)) (hb b9 (by simp)),
      three_num3 (hb b10 (by simp)) (hb b11 (by simp)) (hb b12 (by simp)), three_num3 (hb b13 (by simp)) (hb b14 (by simp)) (hb b15 (by simp))]
    rfl
end Go.Proofs.Ytoipnojibkjjnaa
