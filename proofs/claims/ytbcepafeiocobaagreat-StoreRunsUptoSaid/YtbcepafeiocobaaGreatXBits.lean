/-
  Plain facts about bits, for the engine's clean forms.
-/
import Derived.Test.YtbcepafeiocobaaGreatXWord
namespace Go.X
open Go

theorem xor32 {a b : Nat} (ha : a < 4294967296) (hb : b < 4294967296) : xorV .u32 (a : Int) (b : Int) = ((a ^^^ b : Nat) : Int) := by
  unfold xorV
  have e1 := ofInt_toNat (k := 32) (n := a) (by omega)
  have e2 := ofInt_toNat (k := 32) (n := b) (by omega)
  show IntKind.u32.wrap (((BitVec.ofInt 32 (a : Int)) ^^^ (BitVec.ofInt 32 (b : Int))).toNat : Int) = _
  rw [BitVec.toNat_xor, e1, e2]
  have : a ^^^ b < 2 ^ 32 := Nat.xor_lt_two_pow (by omega) (by omega)
  exact wu32_id ⟨by omega, by omega⟩

theorem and32 {a b : Nat} (ha : a < 4294967296) (hb : b < 4294967296) : andV .u32 (a : Int) (b : Int) = ((a &&& b : Nat) : Int) := by
  unfold andV
  have e1 := ofInt_toNat (k := 32) (n := a) (by omega)
  have e2 := ofInt_toNat (k := 32) (n := b) (by omega)
  show IntKind.u32.wrap (((BitVec.ofInt 32 (a : Int)) &&& (BitVec.ofInt 32 (b : Int))).toNat : Int) = _
  rw [BitVec.toNat_and, e1, e2]
  have : a &&& b ≤ a := Nat.and_le_left
  exact wu32_id ⟨by omega, by omega⟩

theorem or32 {a b : Nat} (ha : a < 4294967296) (hb : b < 4294967296) : orV .u32 (a : Int) (b : Int) = ((a ||| b : Nat) : Int) := by
  unfold orV
  have e1 := ofInt_toNat (k := 32) (n := a) (by omega)
  have e2 := ofInt_toNat (k := 32) (n := b) (by omega)
  show IntKind.u32.wrap (((BitVec.ofInt 32 (a : Int)) ||| (BitVec.ofInt 32 (b : Int))).toNat : Int) = _
  rw [BitVec.toNat_or, e1, e2]
  have : a ||| b < 2 ^ 32 := Nat.or_lt_two_pow (by omega) (by omega)
  exact wu32_id ⟨by omega, by omega⟩

theorem xor_ones {s : Nat} (h : s < 4294967296) : 4294967295 ^^^ s = 4294967295 - s := by
  have h1 : (BitVec.allOnes 32 ^^^ BitVec.ofNat 32 s).toNat = 4294967295 - s := by
    rw [← BitVec.not_def, BitVec.toNat_not, BitVec.toNat_ofNat, Nat.mod_eq_of_lt (by omega)]
  rw [BitVec.toNat_xor, BitVec.toNat_ofNat, Nat.mod_eq_of_lt (by omega)] at h1
  exact h1

theorem not32 {s : Nat} (h : s < 4294967296) : xorV .u32 4294967295 (s : Int) = ((4294967295 - s : Nat) : Int) := by
  have := xor32 (a := 4294967295) (b := s) (by omega) h
  rw [xor_ones h] at this; exact this

theorem shr32 (x : Nat) (y : Int) : shrV .u32 (x : Int) y = ((x / 2 ^ (min y.toNat 32) : Nat) : Int) := by
  unfold shrV
  have : IntKind.u32.bits = 32 := rfl
  rw [this, Int.fdiv_eq_ediv_of_nonneg _ (by exact Int.le_of_lt (Int.pow_pos (by omega)))]
  simp [Int.natCast_pow]

theorem shl32 {x : Nat} {k : Nat} (hk : k ≤ 32) (h : x * 2 ^ k < 4294967296) : shlV .u32 (x : Int) (k : Int) = ((x * 2 ^ k : Nat) : Int) := by
  unfold shlV
  have : min ((k : Int).toNat) IntKind.u32.bits = k := by
    have : IntKind.u32.bits = 32 := rfl
    rw [this]; omega
  rw [this]
  have e : ((x : Int) * 2 ^ k) = ((x * 2 ^ k : Nat) : Int) := by simp
  rw [e]
  exact wu32_id ⟨by omega, by omega⟩

/-- One of the program's steps of the sum. -/
theorem half_step {x : Nat} (h : x < 4294967296) : xorV .u32 (shrV .u32 (x : Int) 1) (andV .u32 2197175160 (wu32 (0 - (andV .u32 (x : Int) 1)))) = ((if x % 2 = 1 then (x / 2) ^^^ 2197175160 else x / 2 : Nat) : Int) := by
  have e1 : shrV .u32 (x : Int) 1 = ((x / 2 : Nat) : Int) := by rw [shr32]; rfl
  have e2 : andV .u32 (x : Int) 1 = ((x % 2 : Nat) : Int) := by
    have := and32 (a := x) (b := 1) h (by omega)
    rw [Nat.and_one_is_mod] at this; exact this
  rw [e1, e2]
  by_cases hx : x % 2 = 1
  · rw [if_pos hx, hx]
    have e3 : andV .u32 2197175160 (wu32 (0 - ((1 : Nat) : Int))) = ((2197175160 : Nat) : Int) := by decide
    rw [e3, xor32 (by omega) (by omega)]
  · rw [if_neg hx]
    have h0 : x % 2 = 0 := by omega
    rw [h0]
    have e3 : andV .u32 2197175160 (wu32 (0 - ((0 : Nat) : Int))) = ((0 : Nat) : Int) := by decide
    rw [e3, xor32 (by omega) (by omega)]
    simp

theorem and_high (c : Nat) (h : c < 18446744073709551616) : (andNotV .u64 (c : Int) 127 == 0) = decide (c < 128) := by
  unfold andNotV
  have e1 := ofInt_toNat (k := 64) (n := c) (by omega)
  show (IntKind.u64.wrap (((BitVec.ofInt 64 (c : Int)) &&& ~~~(BitVec.ofInt 64 127)).toNat : Int) == 0) = _
  have hz : ((BitVec.ofInt 64 (c : Int)) &&& ~~~(BitVec.ofInt 64 127)).toNat = c / 128 * 128 := by
    rw [BitVec.toNat_and, e1]
    have : (~~~(BitVec.ofInt 64 127)).toNat = 18446744073709551488 := by decide
    rw [this]
    apply Nat.eq_of_testBit_eq
    intro i
    have e3 : c / 128 * 128 = (c >>> 7) <<< 7 := by rw [Nat.shiftRight_eq_div_pow, Nat.shiftLeft_eq]
    have e4 : (18446744073709551488 : Nat) = (2 ^ 57 - 1) <<< 7 := by decide
    rw [e3, e4, Nat.testBit_and, Nat.testBit_shiftLeft, Nat.testBit_shiftLeft, Nat.testBit_two_pow_sub_one, Nat.testBit_shiftRight]
    by_cases h7 : 7 ≤ i
    · have e5 : 7 + (i - 7) = i := by omega
      rw [e5]
      by_cases h64 : i - 7 < 57
      · simp [h7, h64]
      · have : c.testBit i = false := Nat.testBit_lt_two_pow (Nat.lt_of_lt_of_le h (by
          show 2 ^ 64 ≤ 2 ^ i
          exact Nat.pow_le_pow_right (by omega) (by omega)))
        simp [this]
    · simp [h7]
  rw [hz, show IntKind.u64.wrap ((c / 128 * 128 : Nat) : Int) = ((c / 128 * 128 : Nat) : Int) from wu64_id ⟨by omega, by omega⟩]
  by_cases hc : c < 128
  · simp [hc]; omega
  · simp [hc]; omega

theorem or_add {a b : Nat} (k : Nat) (hb : b < 2 ^ k) : a * 2 ^ k ||| b = a * 2 ^ k + b := by
  have := Nat.shiftLeft_add_eq_or_of_lt hb a
  rw [Nat.shiftLeft_eq] at this
  exact this.symm

/-- Four bytes as a number. -/
theorem or_four {a b c d : Nat} (ha : a < 256) (hb : b < 256) (hc : c < 256) (hd : d < 256) :
    orV .u32 (orV .u32 (orV .u32 (shlV .u32 (a : Int) 24) (shlV .u32 (b : Int) 16)) (shlV .u32 (c : Int) 8)) (d : Int) = ((((a * 256 + b) * 256 + c) * 256 + d : Nat) : Int) := by
  have e1 := shl32 (x := a) (k := 24) (by omega) (by omega)
  have e2 := shl32 (x := b) (k := 16) (by omega) (by omega)
  have e3 := shl32 (x := c) (k := 8) (by omega) (by omega)
  have s1 : ((24 : Nat) : Int) = 24 := rfl
  have s2 : ((16 : Nat) : Int) = 16 := rfl
  have s3 : ((8 : Nat) : Int) = 8 := rfl
  rw [s1] at e1; rw [s2] at e2; rw [s3] at e3
  rw [e1, e2, e3, or32 (by omega) (by omega)]
  have h1 : a * 2 ^ 24 ||| b * 2 ^ 16 = (a * 256 + b) * 2 ^ 16 := by rw [or_add 24 (by omega)]; omega
  rw [h1, or32 (by omega) (by omega)]
  have h2 : (a * 256 + b) * 2 ^ 16 ||| c * 2 ^ 8 = ((a * 256 + b) * 256 + c) * 2 ^ 8 := by rw [or_add 16 (by omega)]; omega
  rw [h2, or32 (by omega) (by omega)]
  have h3 : ((a * 256 + b) * 256 + c) * 2 ^ 8 ||| d = (((a * 256 + b) * 256 + c) * 256 + d) := by rw [or_add 8 (by omega)]
  rw [h3]

end Go.X
