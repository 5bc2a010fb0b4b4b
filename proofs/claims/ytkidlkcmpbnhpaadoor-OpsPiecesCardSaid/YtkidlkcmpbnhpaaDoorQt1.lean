/-
  Runes: quireref3.next, Runes, Check, Len. Conditions: as stated at each.
-/
import Derived.Test.YtkidlkcmpbnhpaaDoorQc3
import Derived.Lib.ValidLaws
import Derived.Lib.MapLaws
import Derived.Lib.TrimUEq
namespace Go.Q
open Go Go.Proofs Go.Proofs.Tryd
set_option maxRecDepth 100000
variable {L : Nat → Prop} {gd : Gd} {H : List Ck} {E : List Fact}
/-- The rune that a text begins with, and its bytes; none: 0, 0. -/
def nextN (n b0 b1 b2 b3 : Nat) : Nat × Nat := if Lib.decodeN n b0 b1 b2 b3 = (65533, 1) then (0, 0) else Lib.decodeN n b0 b1 b2 b3
def nextL (l : List UInt8) : Nat × Nat := if Lib.decodeL l = (65533, 1) then (0, 0) else Lib.decodeL l
theorem nextL_N (l : List UInt8) : nextL l = nextN l.length (l.getD 0 0).toNat (l.getD 1 0).toNat (l.getD 2 0).toNat (l.getD 3 0).toNat := by
  unfold nextL nextN; rw [Lib.decodeL_N]
theorem nextN_1 {n b0 b1 b2 b3 : Nat} (h : b0 < 128) : nextN n b0 b1 b2 b3 = (b0, 1) := by
  unfold nextN; rw [Lib.decodeN_ascii _ _ _ _ _ h, if_neg]; intro e; injection e with e _; omega
theorem nextN_no {n b0 b1 b2 b3 : Nat} (h : Lib.decodeN n b0 b1 b2 b3 = (65533, 1)) : nextN n b0 b1 b2 b3 = (0, 0) := by unfold nextN; rw [if_pos h]
theorem nextN_bad {n b0 b1 b2 b3 : Nat} (hb : (128 ≤ b0 ∧ b0 < 194) ∨ (245 ≤ b0 ∧ b0 < 256)) : nextN n b0 b1 b2 b3 = (0, 0) := nextN_no (Lib.decodeN_bad n b0 b1 b2 b3 hb)
theorem nextN_2 {n b0 b1 b2 b3 : Nat} (hb : 194 ≤ b0 ∧ b0 < 224) : nextN n b0 b1 b2 b3 = if 1 < n ∧ b1 / 64 = 2 then (b0 % 32 * 64 + b1 % 64, 2) else (0, 0) := by
  have e1 : b0 / 32 = 6 := by omega
  have e0 : ¬ b0 < 128 := by omega
  have e2 : ¬ b0 / 16 = 14 := by omega
  have e3 : ¬ b0 / 8 = 30 := by omega
  by_cases h : 1 < n ∧ b1 / 64 = 2
  · have : b0 % 32 * 64 + b1 % 64 ≥ 128 := by omega
    rw [if_pos h]; unfold nextN Lib.decodeN
    simp only [e0, e1, h, and_self, this, if_true, if_false]
    rw [if_neg]; intro e; injection e with _ e; omega
  · rw [if_neg h]; refine nextN_no ?_
    unfold Lib.decodeN
    simp only [e0, e1, e2, e3, h, and_false, false_and, if_false]
theorem nextN_3 {n b0 b1 b2 b3 : Nat} (hb : 224 ≤ b0 ∧ b0 < 240) : nextN n b0 b1 b2 b3 = if (1 < n ∧ b1 / 64 = 2) ∧ (2 < n ∧ b2 / 64 = 2) ∧ b0 % 16 * 4096 + b1 % 64 * 64 + b2 % 64 ≥ 2048 ∧ (b0 % 16 * 4096 + b1 % 64 * 64 + b2 % 64 < 55296 ∨ 57344 ≤ b0 % 16 * 4096 + b1 % 64 * 64 + b2 % 64) then (b0 % 16 * 4096 + b1 % 64 * 64 + b2 % 64, 3) else (0, 0) := by
  have e1 : ¬ b0 / 32 = 6 := by omega
  have e0 : ¬ b0 < 128 := by omega
  have e2 : b0 / 16 = 14 := by omega
  have e3 : ¬ b0 / 8 = 30 := by omega
  have e4 : b0 % 16 * 4096 + b1 % 64 * 64 + b2 % 64 ≤ 1114111 := by omega
  unfold nextN Lib.decodeN
  simp only [e0, e1, e2, e3, e4, false_and, true_and, and_true, if_false]
  repeat' split
  all_goals first | rfl | (exfalso; omega) | (rename_i a b; injection a with a1 a2; omega) | (rename_i a; injection a with a1 a2; omega) | (simp_all; done) | (simp_all; omega)
theorem nextN_4 {n b0 b1 b2 b3 : Nat} (hb : 240 ≤ b0 ∧ b0 < 245) : nextN n b0 b1 b2 b3 = if (1 < n ∧ b1 / 64 = 2) ∧ (2 < n ∧ b2 / 64 = 2) ∧ (3 < n ∧ b3 / 64 = 2) ∧ b0 % 8 * 262144 + b1 % 64 * 4096 + b2 % 64 * 64 + b3 % 64 ≥ 65536 ∧ b0 % 8 * 262144 + b1 % 64 * 4096 + b2 % 64 * 64 + b3 % 64 ≤ 1114111 then (b0 % 8 * 262144 + b1 % 64 * 4096 + b2 % 64 * 64 + b3 % 64, 4) else (0, 0) := by
  have e1 : ¬ b0 / 32 = 6 := by omega
  have e0 : ¬ b0 < 128 := by omega
  have e2 : ¬ b0 / 16 = 14 := by omega
  have e3 : b0 / 8 = 30 := by omega
  unfold nextN Lib.decodeN
  simp only [e0, e1, e2, e3, false_and, true_and, if_false]
  repeat' split
  all_goals first | rfl | (exfalso; omega) | (rename_i a b; injection a with a1 a2; omega) | (rename_i a; injection a with a1 a2; omega) | (simp_all; done) | (simp_all; omega)
/-! Bits -/
theorem and_u8 (m : Nat) (f : Nat → Nat) (h : ∀ b : _root_.Fin 256, bits .and .u8 (b.val : Int) (m : Int) = (f b.val : Int)) (b : UInt8) : bits .and .u8 (b.toNat : Int) (m : Int) = (f b.toNat : Int) := h ⟨b.toNat, b.toNat_lt⟩
theorem and31 (b : UInt8) : bits .and .u8 (b.toNat : Int) 31 = ((b.toNat % 32 : Nat) : Int) := and_u8 31 (· % 32) (by decide +kernel) b
theorem and15 (b : UInt8) : bits .and .u8 (b.toNat : Int) 15 = ((b.toNat % 16 : Nat) : Int) := and_u8 15 (· % 16) (by decide +kernel) b
theorem and7 (b : UInt8) : bits .and .u8 (b.toNat : Int) 7 = ((b.toNat % 8 : Nat) : Int) := and_u8 7 (· % 8) (by decide +kernel) b
theorem and63 (b : UInt8) : bits .and .u8 (b.toNat : Int) 63 = ((b.toNat % 64 : Nat) : Int) := and_u8 63 (· % 64) (by decide +kernel) b
theorem and192 (b : UInt8) : bits .and .u8 (b.toNat : Int) 192 = ((b.toNat / 64 * 64 : Nat) : Int) := and_u8 192 (fun x => x / 64 * 64) (by decide +kernel) b
theorem bits_or (k : IntKind) (x y : Nat) (hx : x < 2 ^ k.bits) (hy : y < 2 ^ k.bits) : bits .or k (x : Int) (y : Int) = k.wrap ((x ||| y : Nat) : Int) := by
  show k.wrap ((BitVec.ofInt k.bits (x : Int) ||| BitVec.ofInt k.bits (y : Int)).toNat : Int) = _
  rw [BitVec.ofInt_natCast, BitVec.ofInt_natCast, BitVec.toNat_or, BitVec.toNat_ofNat, BitVec.toNat_ofNat, Nat.mod_eq_of_lt hx, Nat.mod_eq_of_lt hy]
theorem wrap_i32 {x : Int} (h1 : -(2 ^ 31) ≤ x) (h2 : x < 2 ^ 31) : IntKind.i32.wrap x = x := by
  simp [IntKind.wrap, IntKind.bits, IntKind.signed]
  omega
theorem wrap_u8 {x : Int} (h1 : 0 ≤ x) (h2 : x < 256) : IntKind.u8.wrap x = x := by
  simp [IntKind.wrap, IntKind.bits, IntKind.signed]
  omega
theorem or64 (x y : Nat) (hx : x < 2 ^ 24) (hy : y < 64) : bits .or .i32 ((x : Int) * 64) (y : Int) = ((x * 64 + y : Nat) : Int) := by
  have e : x * 64 ||| y = x * 64 + y := by
    have := Nat.two_pow_add_eq_or_of_lt (i := 6) (b := y) (by omega) x
    rw [Nat.mul_comm x 64]; exact this.symm
  rw [show ((x : Int) * 64) = ((x * 64 : Nat) : Int) by simp, bits_or .i32 _ _ (by show _ < 2 ^ 32; omega) (by show _ < 2 ^ 32; omega), e, wrap_i32 (by omega) (by omega)]
end Go.Q
