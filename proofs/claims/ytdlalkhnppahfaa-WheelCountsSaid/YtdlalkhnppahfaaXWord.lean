/-
  Plain facts about whole numbers that wrap, bytes and texts, for the engine's clean forms.
-/
import Derived.Test.YtdlalkhnppahfaaXSep
import Derived.Lib.Strings
namespace Go.X
open Go

theorem bif_i {c : Bool} {A B : Prop} (h1 : c = true → A) (h2 : c = false → B) : bif c then A else B := by
  cases c
  · exact h2 rfl
  · exact h1 rfl
theorem bif_t {c : Bool} {A B : Prop} (hc : c = true) (h1 : A) : bif c then A else B := by subst hc; exact h1
theorem bif_f {c : Bool} {A B : Prop} (hc : c = false) (h1 : B) : bif c then A else B := by subst hc; exact h1

theorem w64_id {n : Int} (h : -9223372036854775808 ≤ n ∧ n ≤ 9223372036854775807) : w64 n = n := IntWalk.i64_in n h
theorem wu64_id {n : Int} (h : 0 ≤ n ∧ n ≤ 18446744073709551615) : wu64 n = n := IntWalk.u64_in n h
theorem wu32_id {n : Int} (h : 0 ≤ n ∧ n ≤ 4294967295) : wu32 n = n := IntWalk.u32_in n h
theorem wu8_id {n : Int} (h : 0 ≤ n ∧ n ≤ 255) : wu8 n = n := IntWalk.u8_in n h
theorem wu8_mod (n : Int) : wu8 n = n % 256 := by show IntKind.u8.wrap n = _; rw [IntKind.wrap_u8]
theorem wu64_mod (n : Int) : wu64 n = n % 18446744073709551616 := by
  show IntKind.u64.wrap n = _
  simp [IntKind.wrap, IntKind.signed, IntKind.bits]

/-- Bytes as a Go text. -/
def bs (l : List UInt8) : ByteArray := ⟨l.toArray⟩
def ls (s : ByteArray) : List UInt8 := s.data.toList
@[simp] theorem ls_bs (l : List UInt8) : ls (bs l) = l := rfl
@[simp] theorem bs_ls (s : ByteArray) : bs (ls s) = s := rfl
@[simp] theorem bs_size (l : List UInt8) : (bs l).size = l.length := rfl
theorem bs_inj {a b : List UInt8} (h : bs a = bs b) : a = b := by
  have := congrArg ls h; simpa using this
@[simp] theorem bs_get? (l : List UInt8) (i : Nat) : (bs l)[i]? = l[i]? := by
  by_cases h : i < l.length
  · rw [getElem?_pos (bs l) i (by simpa using h), List.getElem?_eq_getElem h]; rfl
  · rw [getElem?_neg (bs l) i (by simpa using h), List.getElem?_eq_none (by omega)]
@[simp] theorem bs_extract (l : List UInt8) (i j : Nat) : (bs l).extract i j = bs ((l.take j).drop i) := by
  apply ByteArray.ext
  simp only [bs, ByteArray.data_extract]
  simp [List.drop_take]
@[simp] theorem bs_append (a b : List UInt8) : bs a ++ bs b = bs (a ++ b) := by
  apply ByteArray.ext
  simp [bs]
theorem bs_nil : (⟨#[]⟩ : ByteArray) = bs [] := rfl

theorem toList_eq (s : ByteArray) : s.toList = ls s := Lib.toList_data s

theorem strEq_bs (a b : List UInt8) : strEq (bs a) (bs b) = (a == b) := by
  unfold strEq
  rw [toList_eq, toList_eq]; rfl
theorem strEq_nil (a : List UInt8) : strEq (bs a) ⟨#[]⟩ = a.isEmpty := by
  rw [bs_nil, strEq_bs]; cases a <;> rfl

theorem catD_bs {a b : List UInt8} {K : ByteArray → Prop} (h : a.length + b.length ≤ 9223372036854775807) (k : K (bs (a ++ b))) : catD (bs a) (bs b) K :=
  ⟨h, by rw [bs_append]; exact k⟩

/-! ### Bits -/

theorem shl8 {x : Int} (h0 : 0 ≤ x) (h : x < 72057594037927936) : shlV .u64 x 8 = x * 256 := by
  unfold shlV
  have : min (Int.toNat 8) IntKind.u64.bits = 8 := by decide
  rw [this]
  have := wu64_id (n := x * 2 ^ 8) (by omega)
  simpa [wu64] using this

theorem ofInt_toNat {n : Nat} {k : Nat} (h : n < 2 ^ k) : (BitVec.ofInt k (n : Int)).toNat = n := by
  rw [BitVec.ofInt_natCast]; simp [Nat.mod_eq_of_lt h]

theorem orV_nat {a b : Nat} (ha : a < 2 ^ 64) (hb : b < 2 ^ 64) : orV .u64 (a : Int) (b : Int) = ((a ||| b : Nat) : Int) := by
  unfold orV
  have e1 := ofInt_toNat (k := 64) ha
  have e2 := ofInt_toNat (k := 64) hb
  show IntKind.u64.wrap (((BitVec.ofInt 64 (a : Int)) ||| (BitVec.ofInt 64 (b : Int))).toNat : Int) = _
  rw [BitVec.toNat_or, e1, e2]
  have : a ||| b < 2 ^ 64 := Nat.or_lt_two_pow ha hb
  exact wu64_id ⟨by omega, by omega⟩

theorem or_byte {x c : Int} (h0 : 0 ≤ x) (h : x < 72057594037927936) (hc : 0 ≤ c) (hc' : c < 256) : orV .u64 (shlV .u64 x 8) c = x * 256 + c := by
  rw [shl8 h0 h]
  obtain ⟨n, rfl⟩ := Int.eq_ofNat_of_zero_le h0
  obtain ⟨m, rfl⟩ := Int.eq_ofNat_of_zero_le hc
  have hn : n < 72057594037927936 := by omega
  have hm : m < 256 := by omega
  have e : ((n : Int) * 256) = ((n * 256 : Nat) : Int) := by omega
  rw [e, orV_nat (by omega) (by omega)]
  have := Nat.shiftLeft_add_eq_or_of_lt (b := m) (i := 8) (by omega) n
  rw [Nat.shiftLeft_eq] at this
  have h2 : n * 256 ||| m = n * 256 + m := by simpa using this.symm
  rw [h2]; omega

/-- A number's bytes, the highest first, as few as can be. -/
def dig (x : Nat) : List UInt8 := if h : x = 0 then [] else dig (x / 256) ++ [UInt8.ofNat (x % 256)]
termination_by x
decreasing_by omega

theorem dig_zero : dig 0 = [] := by unfold dig; simp
theorem dig_pos {x : Nat} (h : x ≠ 0) : dig x = dig (x / 256) ++ [UInt8.ofNat (x % 256)] := by rw [dig]; simp [h]

def wNum (x : Nat) : List UInt8 := UInt8.ofNat (dig x).length :: dig x

/-- What bytes say as a number, the highest first. -/
def be (l : List UInt8) : Nat := l.foldl (fun x c => x * 256 + c.toNat) 0

theorem be_snoc (l : List UInt8) (c : UInt8) : be (l ++ [c]) = be l * 256 + c.toNat := by simp [be]

theorem be_from : ∀ (l : List UInt8) (a : Nat), l.foldl (fun x c => x * 256 + c.toNat) a < (a + 1) * 256 ^ l.length
  | [], a => by simp
  | c :: l, a => by
    have := be_from l (a * 256 + c.toNat)
    have hc := c.toNat_lt
    rw [List.foldl_cons, List.length_cons, Nat.pow_succ, Nat.mul_comm (256 ^ _) 256, ← Nat.mul_assoc]
    refine Nat.lt_of_lt_of_le this (Nat.mul_le_mul_right _ (by omega))

theorem be_lt (l : List UInt8) : be l < 256 ^ l.length := by have := be_from l 0; unfold be; simpa using this

theorem be_dig : ∀ (x : Nat), be (dig x) = x := by
  intro x
  induction x using Nat.strongRecOn with
  | _ x ih =>
    by_cases h : x = 0
    · subst h; rw [dig_zero]; rfl
    · rw [dig_pos h, be_snoc, ih (x / 256) (by omega)]
      have : (UInt8.ofNat (x % 256)).toNat = x % 256 := by simp
      rw [this]; omega

theorem dig_len : ∀ (k x : Nat), x < 256 ^ k → (dig x).length ≤ k := by
  intro k
  induction k with
  | zero => intro x h; simp at h; subst h; simp [dig_zero]
  | succ k ih =>
    intro x h
    by_cases h0 : x = 0
    · subst h0; simp [dig_zero]
    · rw [dig_pos h0]
      have : x / 256 < 256 ^ k := by rw [Nat.pow_succ] at h; omega
      have := ih _ this
      simp; omega

end Go.X
