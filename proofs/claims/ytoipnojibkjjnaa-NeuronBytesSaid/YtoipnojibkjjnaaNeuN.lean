/-
  Walks of the functions of package neuron (part N): 'Unpack': what it computes.
  For every list of bytes; the world only gets new blocks.
-/
import Derived.Test.YtoipnojibkjjnaaNeuM
import Derived.Test.YtoipnojibkjjnaaRefC
namespace Go.Proofs.Ytoipnojibkjjnaa
open Go.Sx
set_option maxRecDepth 100000

def qlo (b : Int) : Int := IntKind.i64.wrap (bitI BinOp.and IntKind.u8 b 3)
def qhi (b : Int) : Int := IntKind.i64.wrap (b.fdiv (2 ^ min (Int.toNat 2) IntKind.u8.bits))
def num3 (x y z : Int) : Int := bitI BinOp.or IntKind.i64 (bitI BinOp.or IntKind.i64 (IntKind.i64.wrap (IntKind.i64.wrap (IntKind.i8.wrap x) * 2 ^ min (Int.toNat 16) IntKind.i64.bits)) (IntKind.i64.wrap (IntKind.i64.wrap y * 2 ^ min (Int.toNat 8) IntKind.i64.bits))) (IntKind.i64.wrap z)
theorem _root_.Go.Sx.WI.sub {w0 w : World} {L : List (Nat × Nat)} {ρ : Env} {M : Mem} {M' : List (Nat × SObj)} {S : Nat → Prop} (h : WI w0 L ρ M S w) (hs : ∀ x ∈ M', M x.1 = some x.2) : WI w0 L ρ (Sx.look M') S w where
  mem i o hi := h.mem i o (hs _ (look_mem hi))
  dist i j o o' hi hj := h.dist i j o o' (hs _ (look_mem hi)) (hs _ (look_mem hj))
  new i o hi := h.new i o (hs _ (look_mem hi))
  lid := h.lid
  keep := h.keep
  size := h.size
  os := h.os
  tape := h.tape
  output := h.output
def Prm.zero : Prm := ⟨0, 0, 0, 0, 0, 0, 0, 0⟩
def upP (bs : List Int) : Prm := ⟨qlo (bs.getD 0 0), num3 (bs.getD 1 0) (bs.getD 2 0) (bs.getD 3 0), num3 (bs.getD 4 0) (bs.getD 5 0) (bs.getD 6 0), num3 (bs.getD 7 0) (bs.getD 8 0) (bs.getD 9 0), qhi (bs.getD 0 0), num3 (bs.getD 10 0) (bs.getD 11 0) (bs.getD 12 0), num3 (bs.getD 13 0) (bs.getD 14 0) (bs.getD 15 0), W (bs.getD 16 0)⟩
def upR (bs : List Int) : Prm × Int := if bs.length < 17 then (Prm.zero, 19) else if 17 < bs.length then (Prm.zero, 8) else if chk (upP bs) = 0 then (upP bs, 0) else (Prm.zero, 7)
/-- A call has come to this neuron and this error. -/
def PrmPost (r : Prm × Int) (w : World) (e : Ending) (w' : World) : Prop := e = .returned (.tuple #[r.1.sv.conc env0, .int .i64 r.2]) ∧ Ext w w'
theorem Unpack_run (v : Value) (bs : List Int) (w : World) (hr : RowAt w v (bs.map fun x => .int .u8 x)) : Calls Try.prog 33 #[v] w (PrmPost (upR bs) w) := by
  obtain ⟨ck, hck⟩ : ∃ ck : Prm → Int, chk = ck := ⟨chk, rfl⟩
  have hpf : PF.oks Try.prog [(24, FP fun p => .int .i64 (ck p))] := by rw [← hck]; exact ⟨check_pure, trivial⟩
  have hc : ∀ f fn cuts L, Try.prog.funcs[f]? = some fn → Cx.ok ⟨Try.prog, tab, [(24, FP fun p => .int .i64 (ck p))], f, fn, cuts, w, L, none⟩ := fun f fn cuts L h => ⟨tab_ok, hpf, h, mixed, fun _ h => by cases h⟩
  unfold upR
  rw [hck]
  by_cases h17 : bs.length = 17
  · have hx0 : bs ≠ [] := by rintro rfl; cases h17
    have hb := fun k => hr.blk (by simpa using hx0) (k := k)
    rcases hr with ⟨_, h⟩ | ⟨blk, off, cap, rfl, h1⟩
    · exact absurd h (by simpa using hx0)
    have hW0 := one_start (hb blk rfl) h1
    have hl0 : (bs.map fun x => Value.int .u8 x).length = 17 := by simpa using h17
    rw [hl0]
    have ha : #[.slice (some ⟨blk, off, none⟩) 17 cap] = (SV.concs (env2 blk off blk off) [.slc 0 0 17 cap]).toArray := by simp [SV.concs, SV.conc, env2]
    rw [ha, if_neg (by omega), if_neg (by omega)]
    obtain ⟨b0, b1, b2, b3, b4, b5, b6, b7, b8, b9, b10, b11, b12, b13, b14, b15, b16, rfl⟩ : ∃ b0 b1 b2 b3 b4 b5 b6 b7 b8 b9 b10 b11 b12 b13 b14 b15 b16 : Int, bs = [b0, b1, b2, b3, b4, b5, b6, b7, b8, b9, b10, b11, b12, b13, b14, b15, b16] := by
      match bs, h17 with
      | [b0, b1, b2, b3, b4, b5, b6, b7, b8, b9, b10, b11, b12, b13, b14, b15, b16], _ => exact ⟨_, _, _, _, _, _, _, _, _, _, _, _, _, _, _, _, _, rfl⟩
    refine Run.calls (tab := tab) (pf := [(24, FP fun p => .int .i64 (ck p))]) (cuts := []) Try.func33 rfl (env2 blk off blk off) [.slc 0 0 17 cap] _ 1 (by simp [SV.scs, SV.sc]) rfl hW0 (Run.of_wpK (hc _ _ _ _ Try.func33) 2000 _ ?_)
    conv => whnf
    refine Run.draw (hc _ _ _ _ Try.func33) 12 ?_
    conv => whnf
    refine ⟨by decide, ?_⟩
    conv => whnf
    refine ⟨by decide, ?_⟩
    conv => whnf
    refine ⟨by decide, ?_⟩
    conv => whnf
    refine ⟨by kernel_rfl, ?_⟩
    refine Run.of_wpK (hc _ _ _ _ Try.func33) 1000 _ ?_
    conv => whnf
    refine Run.trim (T' := [(29, .fn 51 [.ptr 1 0, .ptr 3 0]), (1, .ptr 1 0), (2, .ptr 2 0), (4, .ptr 3 0), (5, .fn 51 [.ptr 1 0, .ptr 3 0]), (6, .ptr 15 0)]) (M' := [(0, .win ([b0, b1, b2, b3, b4, b5, b6, b7, b8, b9, b10, b11, b12, b13, b14, b15, b16].map fun x => .int .u8 x)), (1, .cells [.slc 0 0 17 cap] 47), (2, .cells [ii 0, ii 0, ii 0, ii 0, ii 0, ii 0, ii 0, ii 0] 23), (3, .cells [ii 1] 3), (15, .cells [ii (qlo b0), ii 0, ii 0, ii 0, ii (qhi b0), ii 0, ii 0, ii 0] 23)]) 16 ⟨⟨rfl, by simp [SV.sc, SV.scs]⟩, ⟨rfl, by simp [SV.sc]⟩, ⟨rfl, by simp [SV.sc]⟩, ⟨rfl, by simp [SV.sc]⟩, ⟨rfl, by simp [SV.sc, SV.scs]⟩, ⟨rfl, by simp [SV.sc]⟩, trivial⟩ ⟨⟨rfl, by omega, trivial⟩, ⟨rfl, by omega, by simp [SObj.sc, SV.scs, SV.sc]⟩, ⟨rfl, by omega, by simp [SObj.sc, SV.scs, SV.sc]⟩, ⟨rfl, by omega, by simp [SObj.sc, SV.scs, SV.sc]⟩, ⟨rfl, by omega, by simp [SObj.sc, SV.scs, SV.sc]⟩, trivial⟩ (fun p hp => by cases hp) ?_
    refine Run.inlineP (T0 := [(1, .ptr 1 0), (2, .ptr 2 0), (4, .ptr 3 0), (5, .fn 51 [.ptr 1 0, .ptr 3 0]), (6, .ptr 15 0)]) rfl rfl rfl rfl rfl rfl rfl (ent _ _ Try.func51 (by kernel_rfl) rfl) Try.func51 rfl rfl [] [1, 2, 3, 15] [(0, .win ([b0, b1, b2, b3, b4, b5, b6, b7, b8, b9, b10, b11, b12, b13, b14, b15, b16].map fun x => .int .u8 x)), (1, .cells [.slc 0 0 17 cap] 47), (2, .cells [ii 0, ii 0, ii 0, ii 0, ii 0, ii 0, ii 0, ii 0] 23), (3, .cells [ii 4] 3), (15, .cells [ii (qlo b0), ii 0, ii 0, ii 0, ii (qhi b0), ii 0, ii 0, ii 0] 23)] 39 (.int .i64 (num3 b1 b2 b3)) ?_ ?_ ?_ ?_ ?_ ?_
    · exact AllP.mem (l := [1, 2, 3, 15]) ⟨⟨by omega, _, _, rfl⟩, ⟨by omega, _, _, rfl⟩, ⟨by omega, _, _, rfl⟩, ⟨by omega, _, _, rfl⟩, trivial⟩
    · exact AllP.mem (l := [1, 2, 3, 15]) ⟨⟨by omega, _, _, rfl⟩, ⟨by omega, _, _, rfl⟩, ⟨by omega, _, _, rfl⟩, ⟨by omega, _, _, rfl⟩, trivial⟩
    · intro q hq; cases hq
    · exact AllP.mem ⟨⟨rfl, by simp [SV.pin]⟩, ⟨rfl, by simp [SV.pin]⟩, ⟨rfl, by simp [SV.pin]⟩, ⟨rfl, by simp [SV.pin, SV.pins]⟩, ⟨rfl, by simp [SV.pin]⟩, trivial⟩
    · intro L' hL' _
      refine Run.of_wpK (hc _ _ _ _ Try.func51) 1000 _ ?_
      conv => whnf
      refine Run.draw (hc _ _ _ _ Try.func51) 21 ?_
      conv => whnf
      refine ⟨by decide, ?_⟩
      conv => whnf
      refine ⟨by decide, ?_⟩
      conv => whnf
      refine ⟨by decide, ?_⟩
      conv => whnf
      refine ⟨by decide, ?_⟩
      conv => whnf
      refine ⟨by decide, ?_⟩
      conv => whnf
      refine ⟨by kernel_rfl, ?_⟩
      refine Run.of_wpK (hc _ _ _ _ Try.func51) 1000 _ ?_
      conv => whnf
      refine ⟨fun ρ w' hW _ => ⟨rfl, ρ, hW.sub (M' := [(0, .win ([b0, b1, b2, b3, b4, b5, b6, b7, b8, b9, b10, b11, b12, b13, b14, b15, b16].map fun x => .int .u8 x)), (1, .cells [.slc 0 0 17 cap] 47), (2, .cells [ii 0, ii 0, ii 0, ii 0, ii 0, ii 0, ii 0, ii 0] 23), (3, .cells [ii 4] 3), (15, .cells [ii (qlo b0), ii 0, ii 0, ii 0, ii (qhi b0), ii 0, ii 0, ii 0] 23)]) (AllP.mem ⟨rfl, rfl, rfl, rfl, rfl, trivial⟩)⟩⟩

    refine Run.of_wpK (hc _ _ _ _ Try.func33) 1000 _ ?_
    conv => whnf
    refine Run.trim (T' := [(31, .fn 51 [.ptr 1 0, .ptr 3 0]), (1, .ptr 1 0), (2, .ptr 2 0), (4, .ptr 3 0), (5, .fn 51 [.ptr 1 0, .ptr 3 0]), (6, .ptr 15 0), (30, ii (num3 b1 b2 b3))]) (M' := [(0, .win ([b0, b1, b2, b3, b4, b5, b6, b7, b8, b9, b10, b11, b12, b13, b14, b15, b16].map fun x => .int .u8 x)), (1, .cells [.slc 0 0 17 cap] 47), (2, .cells [ii 0, ii 0, ii 0, ii 0, ii 0, ii 0, ii 0, ii 0] 23), (3, .cells [ii 4] 3), (15, .cells [ii (qlo b0), ii 0, ii 0, ii 0, ii (qhi b0), ii 0, ii 0, ii 0] 23)]) 16 ⟨⟨rfl, by simp [SV.sc, SV.scs]⟩, ⟨rfl, by simp [SV.sc]⟩, ⟨rfl, by simp [SV.sc]⟩, ⟨rfl, by simp [SV.sc]⟩, ⟨rfl, by simp [SV.sc, SV.scs]⟩, ⟨rfl, by simp [SV.sc]⟩, ⟨rfl, trivial⟩, trivial⟩ ⟨⟨rfl, by omega, trivial⟩, ⟨rfl, by omega, by simp [SObj.sc, SV.scs, SV.sc]⟩, ⟨rfl, by omega, by simp [SObj.sc, SV.scs, SV.sc]⟩, ⟨rfl, by omega, by simp [SObj.sc, SV.scs, SV.sc]⟩, ⟨rfl, by omega, by simp [SObj.sc, SV.scs, SV.sc]⟩, trivial⟩ (fun p hp => by cases hp) ?_
    refine Run.inlineP (T0 := [(1, .ptr 1 0), (2, .ptr 2 0), (4, .ptr 3 0), (5, .fn 51 [.ptr 1 0, .ptr 3 0]), (6, .ptr 15 0), (30, ii (num3 b1 b2 b3))]) rfl rfl rfl rfl rfl rfl rfl (ent _ _ Try.func51 (by kernel_rfl) rfl) Try.func51 rfl rfl [] [1, 2, 3, 15] [(0, .win ([b0, b1, b2, b3, b4, b5, b6, b7, b8, b9, b10, b11, b12, b13, b14, b15, b16].map fun x => .int .u8 x)), (1, .cells [.slc 0 0 17 cap] 47), (2, .cells [ii 0, ii 0, ii 0, ii 0, ii 0, ii 0, ii 0, ii 0] 23), (3, .cells [ii 7] 3), (15, .cells [ii (qlo b0), ii 0, ii 0, ii 0, ii (qhi b0), ii 0, ii 0, ii 0] 23)] 39 (.int .i64 (num3 b4 b5 b6)) ?_ ?_ ?_ ?_ ?_ ?_
    · exact AllP.mem (l := [1, 2, 3, 15]) ⟨⟨by omega, _, _, rfl⟩, ⟨by omega, _, _, rfl⟩, ⟨by omega, _, _, rfl⟩, ⟨by omega, _, _, rfl⟩, trivial⟩
    · exact AllP.mem (l := [1, 2, 3, 15]) ⟨⟨by omega, _, _, rfl⟩, ⟨by omega, _, _, rfl⟩, ⟨by omega, _, _, rfl⟩, ⟨by omega, _, _, rfl⟩, trivial⟩
    · intro q hq; cases hq
    · exact AllP.mem ⟨⟨rfl, by simp [SV.pin]⟩, ⟨rfl, by simp [SV.pin]⟩, ⟨rfl, by simp [SV.pin]⟩, ⟨rfl, by simp [SV.pin, SV.pins]⟩, ⟨rfl, by simp [SV.pin]⟩, ⟨rfl, trivial⟩, trivial⟩
    · intro L' hL' _
      refine Run.of_wpK (hc _ _ _ _ Try.func51) 1000 _ ?_
      conv => whnf
      refine Run.draw (hc _ _ _ _ Try.func51) 21 ?_
      conv => whnf
      refine ⟨by decide, ?_⟩
      conv => whnf
      refine ⟨by decide, ?_⟩
      conv => whnf
      refine ⟨by decide, ?_⟩
      conv => whnf
      refine ⟨by decide, ?_⟩
      conv => whnf
      refine ⟨by decide, ?_⟩
      conv => whnf
      refine ⟨by kernel_rfl, ?_⟩
      refine Run.of_wpK (hc _ _ _ _ Try.func51) 1000 _ ?_
      conv => whnf
      refine ⟨fun ρ w' hW _ => ⟨rfl, ρ, hW.sub (M' := [(0, .win ([b0, b1, b2, b3, b4, b5, b6, b7, b8, b9, b10, b11, b12, b13, b14, b15, b16].map fun x => .int .u8 x)), (1, .cells [.slc 0 0 17 cap] 47), (2, .cells [ii 0, ii 0, ii 0, ii 0, ii 0, ii 0, ii 0, ii 0] 23), (3, .cells [ii 7] 3), (15, .cells [ii (qlo b0), ii 0, ii 0, ii 0, ii (qhi b0), ii 0, ii 0, ii 0] 23)]) (AllP.mem ⟨rfl, rfl, rfl, rfl, rfl, trivial⟩)⟩⟩
    refine Run.of_wpK (hc _ _ _ _ Try.func33) 1000 _ ?_
    conv => whnf
    refine Run.trim (T' := [(33, .fn 51 [.ptr 1 0, .ptr 3 0]), (1, .ptr 1 0), (2, .ptr 2 0), (4, .ptr 3 0), (5, .fn 51 [.ptr 1 0, .ptr 3 0]), (6, .ptr 15 0), (30, ii (num3 b1 b2 b3)), (32, ii (num3 b4 b5 b6))]) (M' := [(0, .win ([b0, b1, b2, b3, b4, b5, b6, b7, b8, b9, b10, b11, b12, b13, b14, b15, b16].map fun x => .int .u8 x)), (1, .cells [.slc 0 0 17 cap] 47), (2, .cells [ii 0, ii 0, ii 0, ii 0, ii 0, ii 0, ii 0, ii 0] 23), (3, .cells [ii 7] 3), (15, .cells [ii (qlo b0), ii 0, ii 0, ii 0, ii (qhi b0), ii 0, ii 0, ii 0] 23)]) 16 ⟨⟨rfl, by simp [SV.sc, SV.scs]⟩, ⟨rfl, by simp [SV.sc]⟩, ⟨rfl, by simp [SV.sc]⟩, ⟨rfl, by simp [SV.sc]⟩, ⟨rfl, by simp [SV.sc, SV.scs]⟩, ⟨rfl, by simp [SV.sc]⟩, ⟨rfl, trivial⟩, ⟨rfl, trivial⟩, trivial⟩ ⟨⟨rfl, by omega, trivial⟩, ⟨rfl, by omega, by simp [SObj.sc, SV.scs, SV.sc]⟩, ⟨rfl, by omega, by simp [SObj.sc, SV.scs, SV.sc]⟩, ⟨rfl, by omega, by simp [SObj.sc, SV.scs, SV.sc]⟩, ⟨rfl, by omega, by simp [SObj.sc, SV.scs, SV.sc]⟩, trivial⟩ (fun p hp => by cases hp) ?_
    refine Run.inlineP (T0 := [(1, .ptr 1 0), (2, .ptr 2 0), (4, .ptr 3 0), (5, .fn 51 [.ptr 1 0, .ptr 3 0]), (6, .ptr 15 0), (30, ii (num3 b1 b2 b3)), (32, ii (num3 b4 b5 b6))]) rfl rfl rfl rfl rfl rfl rfl (ent _ _ Try.func51 (by kernel_rfl) rfl) Try.func51 rfl rfl [] [1, 2, 3, 15] [(0, .win ([b0, b1, b2, b3, b4, b5, b6, b7, b8, b9, b10, b11, b12, b13, b14, b15, b16].map fun x => .int .u8 x)), (1, .cells [.slc 0 0 17 cap] 47), (2, .cells [ii 0, ii 0, ii 0, ii 0, ii 0, ii 0, ii 0, ii 0] 23), (3, .cells [ii 10] 3), (15, .cells [ii (qlo b0), ii 0, ii 0, ii 0, ii (qhi b0), ii 0, ii 0, ii 0] 23)] 39 (.int .i64 (num3 b7 b8 b9)) ?_ ?_ ?_ ?_ ?_ ?_
    · exact AllP.mem (l := [1, 2, 3, 15]) ⟨⟨by omega, _, _, rfl⟩, ⟨by omega, _, _, rfl⟩, ⟨by omega, _, _, rfl⟩, ⟨by omega, _, _, rfl⟩, trivial⟩
    · exact AllP.mem (l := [1, 2, 3, 15]) ⟨⟨by omega, _, _, rfl⟩, ⟨by omega, _, _, rfl⟩, ⟨by omega, _, _, rfl⟩, ⟨by omega, _, _, rfl⟩, trivial⟩
    · intro q hq; cases hq
    · exact AllP.mem ⟨⟨rfl, by simp [SV.pin]⟩, ⟨rfl, by simp [SV.pin]⟩, ⟨rfl, by simp [SV.pin]⟩, ⟨rfl, by simp [SV.pin, SV.pins]⟩, ⟨rfl, by simp [SV.pin]⟩, ⟨rfl, trivial⟩, ⟨rfl, trivial⟩, trivial⟩
    · intro L' hL' _
      refine Run.of_wpK (hc _ _ _ _ Try.func51) 1000 _ ?_
      conv => whnf
      refine Run.draw (hc _ _ _ _ Try.func51) 21 ?_
      conv => whnf
      refine ⟨by decide, ?_⟩
      conv => whnf
      refine ⟨by decide, ?_⟩
      conv => whnf
      refine ⟨by decide, ?_⟩
      conv => whnf
      refine ⟨by decide, ?_⟩
      conv => whnf
      refine ⟨by decide, ?_⟩
      conv => whnf
      refine ⟨by kernel_rfl, ?_⟩
      refine Run.of_wpK (hc _ _ _ _ Try.func51) 1000 _ ?_
      conv => whnf
      refine ⟨fun ρ w' hW _ => ⟨rfl, ρ, hW.sub (M' := [(0, .win ([b0, b1, b2, b3, b4, b5, b6, b7, b8, b9, b10, b11, b12, b13, b14, b15, b16].map fun x => .int .u8 x)), (1, .cells [.slc 0 0 17 cap] 47), (2, .cells [ii 0, ii 0, ii 0, ii 0, ii 0, ii 0, ii 0, ii 0] 23), (3, .cells [ii 10] 3), (15, .cells [ii (qlo b0), ii 0, ii 0, ii 0, ii (qhi b0), ii 0, ii 0, ii 0] 23)]) (AllP.mem ⟨rfl, rfl, rfl, rfl, rfl, trivial⟩)⟩⟩
    refine Run.of_wpK (hc _ _ _ _ Try.func33) 1000 _ ?_
    conv => whnf
    refine Run.trim (T' := [(35, .fn 51 [.ptr 1 0, .ptr 3 0]), (1, .ptr 1 0), (2, .ptr 2 0), (4, .ptr 3 0), (5, .fn 51 [.ptr 1 0, .ptr 3 0]), (6, .ptr 15 0), (30, ii (num3 b1 b2 b3)), (32, ii (num3 b4 b5 b6)), (34, ii (num3 b7 b8 b9))]) (M' := [(0, .win ([b0, b1, b2, b3, b4, b5, b6, b7, b8, b9, b10, b11, b12, b13, b14, b15, b16].map fun x => .int .u8 x)), (1, .cells [.slc 0 0 17 cap] 47), (2, .cells [ii 0, ii 0, ii 0, ii 0, ii 0, ii 0, ii 0, ii 0] 23), (3, .cells [ii 10] 3), (15, .cells [ii (qlo b0), ii 0, ii 0, ii 0, ii (qhi b0), ii 0, ii 0, ii 0] 23)]) 16 ⟨⟨rfl, by simp [SV.sc, SV.scs]⟩, ⟨rfl, by simp [SV.sc]⟩, ⟨rfl, by simp [SV.sc]⟩, ⟨rfl, by simp [SV.sc]⟩, ⟨rfl, by simp [SV.sc, SV.scs]⟩, ⟨rfl, by simp [SV.sc]⟩, ⟨rfl, trivial⟩, ⟨rfl, trivial⟩, ⟨rfl, trivial⟩, trivial⟩ ⟨⟨rfl, by omega, trivial⟩, ⟨rfl, by omega, by simp [SObj.sc, SV.scs, SV.sc]⟩, ⟨rfl, by omega, by simp [SObj.sc, SV.scs, SV.sc]⟩, ⟨rfl, by omega, by simp [SObj.sc, SV.scs, SV.sc]⟩, ⟨rfl, by omega, by simp [SObj.sc, SV.scs, SV.sc]⟩, trivial⟩ (fun p hp => by cases hp) ?_
    refine Run.inlineP (T0 := [(1, .ptr 1 0), (2, .ptr 2 0), (4, .ptr 3 0), (5, .fn 51 [.ptr 1 0, .ptr 3 0]), (6, .ptr 15 0), (30, ii (num3 b1 b2 b3)), (32, ii (num3 b4 b5 b6)), (34, ii (num3 b7 b8 b9))]) rfl rfl rfl rfl rfl rfl rfl (ent _ _ Try.func51 (by kernel_rfl) rfl) Try.func51 rfl rfl [] [1, 2, 3, 15] [(0, .win ([b0, b1, b2, b3, b4, b5, b6, b7, b8, b9, b10, b11, b12, b13, b14, b15, b16].map fun x => .int .u8 x)), (1, .cells [.slc 0 0 17 cap] 47), (2, .cells [ii 0, ii 0, ii 0, ii 0, ii 0, ii 0, ii 0, ii 0] 23), (3, .cells [ii 13] 3), (15, .cells [ii (qlo b0), ii 0, ii 0, ii 0, ii (qhi b0), ii 0, ii 0, ii 0] 23)] 39 (.int .i64 (num3 b10 b11 b12)) ?_ ?_ ?_ ?_ ?_ ?_
    · exact AllP.mem (l := [1, 2, 3, 15]) ⟨⟨by omega, _, _, rfl⟩, ⟨by omega, _, _, rfl⟩, ⟨by omega, _, _, rfl⟩, ⟨by omega, _, _, rfl⟩, trivial⟩
    · exact AllP.mem (l := [1, 2, 3, 15]) ⟨⟨by omega, _, _, rfl⟩, ⟨by omega, _, _, rfl⟩, ⟨by omega, _, _, rfl⟩, ⟨by omega, _, _, rfl⟩, trivial⟩
    · intro q hq; cases hq
    · exact AllP.mem ⟨⟨rfl, by simp [SV.pin]⟩, ⟨rfl, by simp [SV.pin]⟩, ⟨rfl, by simp [SV.pin]⟩, ⟨rfl, by simp [SV.pin, SV.pins]⟩, ⟨rfl, by simp [SV.pin]⟩, ⟨rfl, trivial⟩, ⟨rfl, trivial⟩, ⟨rfl, trivial⟩, trivial⟩
    · intro L' hL' _
      refine Run.of_wpK (hc _ _ _ _ Try.func51) 1000 _ ?_
      conv => whnf
      refine Run.draw (hc _ _ _ _ Try.func51) 21 ?_
      conv => whnf
      refine ⟨by decide, ?_⟩
      conv => whnf
      refine ⟨by decide, ?_⟩
      conv => whnf
      refine ⟨by decide, ?_⟩
      conv => whnf
      refine ⟨by decide, ?_⟩
      conv => whnf
      refine ⟨by decide, ?_⟩
      conv => whnf
      refine ⟨by kernel_rfl, ?_⟩
      refine Run.of_wpK (hc _ _ _ _ Try.func51) 1000 _ ?_
      conv => whnf
      refine ⟨fun ρ w' hW _ => ⟨rfl, ρ, hW.sub (M' := [(0, .win ([b0, b1, b2, b3, b4, b5, b6, b7, b8, b9, b10, b11, b12, b13, b14, b15, b16].map fun x => .int .u8 x)), (1, .cells [.slc 0 0 17 cap] 47), (2, .cells [ii 0, ii 0, ii 0, ii 0, ii 0, ii 0, ii 0, ii 0] 23), (3, .cells [ii 13] 3), (15, .cells [ii (qlo b0), ii 0, ii 0, ii 0, ii (qhi b0), ii 0, ii 0, ii 0] 23)]) (AllP.mem ⟨rfl, rfl, rfl, rfl, rfl, trivial⟩)⟩⟩
    refine Run.of_wpK (hc _ _ _ _ Try.func33) 1000 _ ?_
    conv => whnf
    refine Run.trim (T' := [(37, .fn 51 [.ptr 1 0, .ptr 3 0]), (1, .ptr 1 0), (2, .ptr 2 0), (4, .ptr 3 0), (5, .fn 51 [.ptr 1 0, .ptr 3 0]), (6, .ptr 15 0), (30, ii (num3 b1 b2 b3)), (32, ii (num3 b4 b5 b6)), (34, ii (num3 b7 b8 b9)), (36, ii (num3 b10 b11 b12))]) (M' := [(0, .win ([b0, b1, b2, b3, b4, b5, b6, b7, b8, b9, b10, b11, b12, b13, b14, b15, b16].map fun x => .int .u8 x)), (1, .cells [.slc 0 0 17 cap] 47), (2, .cells [ii 0, ii 0, ii 0, ii 0, ii 0, ii 0, ii 0, ii 0] 23), (3, .cells [ii 13] 3), (15, .cells [ii (qlo b0), ii 0, ii 0, ii 0, ii (qhi b0), ii 0, ii 0, ii 0] 23)]) 16 ⟨⟨rfl, by simp [SV.sc, SV.scs]⟩, ⟨rfl, by simp [SV.sc]⟩, ⟨rfl, by simp [SV.sc]⟩, ⟨rfl, by simp [SV.sc]⟩, ⟨rfl, by simp [SV.sc, SV.scs]⟩, ⟨rfl, by simp [SV.sc]⟩, ⟨rfl, trivial⟩, ⟨rfl, trivial⟩, ⟨rfl, trivial⟩, ⟨rfl, trivial⟩, trivial⟩ ⟨⟨rfl, by omega, trivial⟩, ⟨rfl, by omega, by simp [SObj.sc, SV.scs, SV.sc]⟩, ⟨rfl, by omega, by simp [SObj.sc, SV.scs, SV.sc]⟩, ⟨rfl, by omega, by simp [SObj.sc, SV.scs, SV.sc]⟩, ⟨rfl, by omega, by simp [SObj.sc, SV.scs, SV.sc]⟩, trivial⟩ (fun p hp => by cases hp) ?_
    refine Run.inlineP (T0 := [(1, .ptr 1 0), (2, .ptr 2 0), (4, .ptr 3 0), (5, .fn 51 [.ptr 1 0, .ptr 3 0]), (6, .ptr 15 0), (30, ii (num3 b1 b2 b3)), (32, ii (num3 b4 b5 b6)), (34, ii (num3 b7 b8 b9)), (36, ii (num3 b10 b11 b12))]) rfl rfl rfl rfl rfl rfl rfl (ent _ _ Try.func51 (by kernel_rfl) rfl) Try.func51 rfl rfl [] [1, 2, 3, 15] [(0, .win ([b0, b1, b2, b3, b4, b5, b6, b7, b8, b9, b10, b11, b12, b13, b14, b15, b16].map fun x => .int .u8 x)), (1, .cells [.slc 0 0 17 cap] 47), (2, .cells [ii 0, ii 0, ii 0, ii 0, ii 0, ii 0, ii 0, ii 0] 23), (3, .cells [ii 16] 3), (15, .cells [ii (qlo b0), ii 0, ii 0, ii 0, ii (qhi b0), ii 0, ii 0, ii 0] 23)] 39 (.int .i64 (num3 b13 b14 b15)) ?_ ?_ ?_ ?_ ?_ ?_
    · exact AllP.mem (l := [1, 2, 3, 15]) ⟨⟨by omega, _, _, rfl⟩, ⟨by omega, _, _, rfl⟩, ⟨by omega, _, _, rfl⟩, ⟨by omega, _, _, rfl⟩, trivial⟩
    · exact AllP.mem (l := [1, 2, 3, 15]) ⟨⟨by omega, _, _, rfl⟩, ⟨by omega, _, _, rfl⟩, ⟨by omega, _, _, rfl⟩, ⟨by omega, _, _, rfl⟩, trivial⟩
    · intro q hq; cases hq
    · exact AllP.mem ⟨⟨rfl, by simp [SV.pin]⟩, ⟨rfl, by simp [SV.pin]⟩, ⟨rfl, by simp [SV.pin]⟩, ⟨rfl, by simp [SV.pin, SV.pins]⟩, ⟨rfl, by simp [SV.pin]⟩, ⟨rfl, trivial⟩, ⟨rfl, trivial⟩, ⟨rfl, trivial⟩, ⟨rfl, trivial⟩, trivial⟩
    · intro L' hL' _
      refine Run.of_wpK (hc _ _ _ _ Try.func51) 1000 _ ?_
      conv => whnf
      refine Run.draw (hc _ _ _ _ Try.func51) 21 ?_
      conv => whnf
      refine ⟨by decide, ?_⟩
      conv => whnf
      refine ⟨by decide, ?_⟩
      conv => whnf
      refine ⟨by decide, ?_⟩
      conv => whnf
      refine ⟨by decide, ?_⟩
      conv => whnf
      refine ⟨by decide, ?_⟩
      conv => whnf
      refine ⟨by kernel_rfl, ?_⟩
      refine Run.of_wpK (hc _ _ _ _ Try.func51) 1000 _ ?_
      conv => whnf
      refine ⟨fun ρ w' hW _ => ⟨rfl, ρ, hW.sub (M' := [(0, .win ([b0, b1, b2, b3, b4, b5, b6, b7, b8, b9, b10, b11, b12, b13, b14, b15, b16].map fun x => .int .u8 x)), (1, .cells [.slc 0 0 17 cap] 47), (2, .cells [ii 0, ii 0, ii 0, ii 0, ii 0, ii 0, ii 0, ii 0] 23), (3, .cells [ii 16] 3), (15, .cells [ii (qlo b0), ii 0, ii 0, ii 0, ii (qhi b0), ii 0, ii 0, ii 0] 23)]) (AllP.mem ⟨rfl, rfl, rfl, rfl, rfl, trivial⟩)⟩⟩
    refine Run.of_wpK (hc _ _ _ _ Try.func33) 1000 _ ?_
    conv => whnf

    refine ⟨by decide, ?_⟩
    conv => whnf
    cases hv : ck ⟨qlo b0, num3 b1 b2 b3, num3 b4 b5 b6, num3 b7 b8 b9, qhi b0, num3 b10 b11 b12, num3 b13 b14 b15, IntKind.i64.wrap b16⟩ != 0
    · have h0 : ck (upP [b0, b1, b2, b3, b4, b5, b6, b7, b8, b9, b10, b11, b12, b13, b14, b15, b16]) = 0 := by have h : ck ⟨qlo b0, num3 b1 b2 b3, num3 b4 b5 b6, num3 b7 b8 b9, qhi b0, num3 b10 b11 b12, num3 b13 b14 b15, IntKind.i64.wrap b16⟩ = 0 := (by simpa using hv); exact h
      rw [if_pos h0]
      conv => whnf
      exact ⟨fun ρ w' hW _ => ⟨rfl, hW.toExt⟩⟩
    · have h0 : ¬ ck (upP [b0, b1, b2, b3, b4, b5, b6, b7, b8, b9, b10, b11, b12, b13, b14, b15, b16]) = 0 := by have h : ¬ ck ⟨qlo b0, num3 b1 b2 b3, num3 b4 b5 b6, num3 b7 b8 b9, qhi b0, num3 b10 b11 b12, num3 b13 b14 b15, IntKind.i64.wrap b16⟩ = 0 := (by simpa using hv); exact h
      rw [if_neg h0]
      conv => whnf
      exact ⟨fun ρ w' hW _ => ⟨rfl, hW.toExt⟩⟩
  · obtain ⟨pp, cap, rfl⟩ := hr.len
    rw [List.length_map]
    refine Run.start0 (tab := tab) (pf := [(24, FP fun p => .int .i64 (ck p))]) (cuts := []) mixed tab_ok hpf Try.func33 rfl [.v (.slice pp bs.length cap)] 1000 (by simp [SV.scs, SV.sc]) rfl ?_
    conv => whnf
    cases h2 : decide ((bs.length : Int) < 17)
    · have h2 := of_decide_eq_false h2
      rw [if_neg (by omega), if_pos (by omega)]
      conv => whnf
      cases h3 : decide (17 < (bs.length : Int))
      · have h3 := of_decide_eq_false h3
        omega
      · conv => whnf
        exact ⟨fun ρ w' hW _ => ⟨rfl, hW.toExt⟩⟩
    · have h2 := of_decide_eq_true h2
      rw [if_pos (by omega)]
      conv => whnf
      exact ⟨fun ρ w' hW _ => ⟨rfl, hW.toExt⟩⟩
end Go.Proofs.Ytoipnojibkjjnaa
