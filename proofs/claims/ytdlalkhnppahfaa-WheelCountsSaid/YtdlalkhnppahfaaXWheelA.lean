/-
  Layer 9 (wheel): how a wheel lies in memory.
-/
import Derived.Test.YtdlalkhnppahfaaXBig
import Derived.Test.YtdlalkhnppahfaaXWheelM
import Derived.Test.YtdlalkhnppahfaaLWheel
set_option maxRecDepth 8000
namespace Go.X
open Go

def Tm.cells (t : Tm) : List Value := [.int .i64 t.id, .int .u64 (t.due : Int), .int .i64 (t.turn : Int)]
def tcs (l : List Tm) : List Value := l.flatMap Tm.cells
@[simp] theorem tcs_length (l : List Tm) : (tcs l).length = l.length * 3 := by
  induction l with
  | nil => rfl
  | cons x l ih => show (x.cells ++ tcs l).length = _; rw [List.length_append, ih, List.length_cons, Nat.add_mul]; show 3 + _ = _; omega
theorem tcs_append (a b : List Tm) : tcs a ++ tcs b = tcs (a ++ b) := by simp [tcs]
theorem tcs_cons (t : Tm) (l : List Tm) : tcs (t :: l) = t.cells ++ tcs l := rfl
theorem tcs_one (l : List Tm) : ∀ x ∈ tcs l, x.oneCell' = true := fun x hx => by
  obtain ⟨t, _, h⟩ := List.mem_flatMap.1 hx
  simp only [Tm.cells, List.mem_cons, List.not_mem_nil, or_false] at h
  rcases h with rfl | rfl | rfl <;> rfl
theorem tcs_take : ∀ (l : List Tm) (k : Nat), (tcs l).take (k * 3) = tcs (l.take k)
  | l, 0 => by simp [tcs]
  | [], k + 1 => by simp [tcs]
  | t :: l, k + 1 => by
    rw [tcs_cons, List.take_append, List.take_of_length_le (l := t.cells) (by show 3 ≤ _; omega), List.take_succ_cons, tcs_cons, ← tcs_take l k]
    congr 2
    show (k + 1) * 3 - 3 = _; omega
theorem tcs_drop : ∀ (l : List Tm) (k : Nat), (tcs l).drop (k * 3) = tcs (l.drop k)
  | l, 0 => by simp [tcs]
  | [], k + 1 => by simp [tcs]
  | t :: l, k + 1 => by
    rw [tcs_cons, List.drop_append, List.drop_of_length_le (l := t.cells) (by show 3 ≤ _; omega), List.nil_append, List.drop_succ_cons, ← tcs_drop l k]
    congr 1
    show (k + 1) * 3 - 3 = _; omega

/-- The cells of a timer that can be read. -/
theorem Vw.tm {w : World} {a : Option Addr} {l : List Tm} (h : Vw w a (tcs l)) {i : Nat} (hi : i < l.length) : ∃ b o, a = some ⟨b, o, none⟩ ∧ rdRow w b (o + ((i : Int)).toNat * 3) l[i].cells := by
  obtain ⟨b, o, rfl, hc⟩ := h.at (by rw [tcs_length]; omega)
  refine ⟨b, o, rfl, fun j v hj => ?_⟩
  have hj3 : j < 3 := (List.getElem?_eq_some_iff.1 hj).1
  rw [Int.toNat_natCast, Nat.add_assoc]
  refine hc _ _ ?_
  have h1 := List.getElem?_drop (xs := tcs l) (i := i * 3) (j := j)
  rw [← h1, tcs_drop, List.drop_eq_getElem_cons hi, tcs_cons, List.getElem?_append_left (by show j < 3; exact hj3)]
  exact hj

/-- A row of timers: where it lies. -/
structure Rw where
  a : Option Addr
  c : Nat
  l : List Tm
def Rw.hdr (x : Rw) : Value := .slice x.a x.l.length x.c
def Rw.own (TT : Nat) (x : Rw) : A := ow TT 3 x.a x.l.length x.c (tcs x.l)

def rof : Nat → Nat
  | 0 => 0
  | 1 => 64
  | _ => 192
def rsz : Nat → Nat
  | 0 => 64
  | 1 => 128
  | _ => 256
/-- A ring's cells. -/
def hseg (rs : List Rw) (i : Nat) : List Value := ((rs.drop (rof i)).take (rsz i)).map Rw.hdr

theorem hseg_get? (rs : List Rw) (i k : Nat) : (hseg rs i)[k]? = if k < rsz i then rs[rof i + k]?.map Rw.hdr else none := by
  unfold hseg
  rw [List.getElem?_map, List.getElem?_take]
  split
  · rw [List.getElem?_drop]
  · rfl
theorem hseg_len {rs : List Rw} (h : rs.length = 449) {i : Nat} (hi : i < 3) : (hseg rs i).length = rsz i := by
  unfold hseg
  rw [List.length_map, List.length_take, List.length_drop, h]
  match i, hi with
  | 0, _ => rfl
  | 1, _ => rfl
  | 2, _ => rfl
theorem hseg_set {rs : List Rw} (h : rs.length = 449) {i k : Nat} (hi : i < 3) (hk : k < rsz i) (x : Rw) : (hseg rs i).set k x.hdr = hseg (rs.set (rof i + k) x) i := by
  have hb : rof i + k < rs.length := by
    rw [h]
    match i, hi, hk with
    | 0, _, hk => simp [rof, rsz] at hk ⊢; omega
    | 1, _, hk => simp [rof, rsz] at hk ⊢; omega
    | 2, _, hk => simp [rof, rsz] at hk ⊢; omega
  apply List.ext_getElem?
  intro j
  rw [List.getElem?_set, hseg_get?, hseg_get?, List.getElem?_set, hseg_len h hi]
  by_cases hj : k = j
  · subst hj
    rw [if_pos rfl, if_pos hk, if_pos hk, if_pos rfl, if_pos hb]; rfl
  · rw [if_neg hj]
    by_cases hj2 : j < rsz i
    · rw [if_pos hj2, if_pos hj2, if_neg (by omega)]
    · rw [if_neg hj2, if_neg hj2]
theorem hseg_other {rs : List Rw} {i i' k : Nat} (hi : i < 3) (hi' : i' < 3) (hne : i ≠ i') (hk : k < rsz i) (x : Rw) : hseg (rs.set (rof i + k) x) i' = hseg rs i' := by
  apply List.ext_getElem?
  intro j
  rw [hseg_get?, hseg_get?]
  by_cases hj : j < rsz i'
  · rw [if_pos hj, if_pos hj, List.getElem?_set_ne]
    match i, hi, i', hi' with
    | 0, _, 0, _ => exact absurd rfl hne
    | 0, _, 1, _ => simp [rof, rsz] at hk hj ⊢; omega
    | 0, _, 2, _ => simp [rof, rsz] at hk hj ⊢; omega
    | 1, _, 0, _ => simp [rof, rsz] at hk hj ⊢; omega
    | 1, _, 1, _ => exact absurd rfl hne
    | 1, _, 2, _ => simp [rof, rsz] at hk hj ⊢; omega
    | 2, _, 0, _ => simp [rof, rsz] at hk hj ⊢; omega
    | 2, _, 1, _ => simp [rof, rsz] at hk hj ⊢; omega
    | 2, _, 2, _ => exact absurd rfl hne
  · rw [if_neg hj, if_neg hj]
theorem hseg_late {rs : List Rw} {i : Nat} (hi : i < 3) (x : Rw) : hseg (rs.set 448 x) i = hseg rs i := by
  apply List.ext_getElem?
  intro j
  rw [hseg_get?, hseg_get?]
  by_cases hj : j < rsz i
  · rw [if_pos hj, if_pos hj, List.getElem?_set_ne]
    match i, hi, hj with
    | 0, _, hj => simp [rof, rsz] at hj ⊢; omega
    | 1, _, hj => simp [rof, rsz] at hj ⊢; omega
    | 2, _, hj => simp [rof, rsz] at hj ⊢; omega
  · rw [if_neg hj, if_neg hj]

/-- A wheel as it lies in memory. -/
structure Wm where
  now : Nat
  turn : Nat
  n : Nat
  rb : Nat → Nat
  rs : List Rw
def Wm.late (m : Wm) : Rw := m.rs[448]?.getD ⟨none, 0, []⟩
def Wm.cells (m : Wm) : List Value := [.int .u64 (m.now : Int), .int .i64 (m.turn : Int), .slice (some ⟨m.rb 0, 0, none⟩) 64 64, .slice (some ⟨m.rb 1, 0, none⟩) 128 128, .slice (some ⟨m.rb 2, 0, none⟩) 256 256, m.late.hdr, .int .i64 (m.n : Int)]
def Wm.pl (m : Wm) : List (List Tm) := m.rs.map (·.l)

def whP (TW TS TT b : Nat) (m : Wm) (r : List A) : List A := ca b TW m.cells :: ca (m.rb 0) TS (hseg m.rs 0) :: ca (m.rb 1) TS (hseg m.rs 1) :: ca (m.rb 2) TS (hseg m.rs 2) :: big (m.rs.map (Rw.own TT)) :: r

/-! ### Shifts and masks -/
theorem shr_nat (d k : Nat) (hk : k ≤ 64) : shrV .u64 (d : Int) (k : Int) = ((d / 2 ^ k : Nat) : Int) := by
  unfold shrV
  have e : min ((k : Int)).toNat (IntKind.bits .u64) = k := by simp [IntKind.bits]; omega
  rw [e, Int.fdiv_eq_ediv_of_nonneg _ (Int.le_of_lt (Int.pow_pos (by omega)))]
  rw [Int.natCast_ediv]; norm_cast
theorem and_mask {a : Nat} (ha : a < 18446744073709551616) {k : Nat} (hk : k ≤ 63) : andV .u64 (a : Int) ((2 ^ k - 1 : Nat) : Int) = ((a % 2 ^ k : Nat) : Int) := by
  have hp : (2 : Nat) ^ k ≤ 2 ^ 63 := Nat.pow_le_pow_right (by omega) hk
  have hlt : a % 2 ^ k < 18446744073709551616 := Nat.lt_of_le_of_lt (Nat.mod_le _ _) ha
  unfold andV
  have e1 : (BitVec.ofInt (IntKind.bits .u64) (a : Int)).toNat = a := by
    rw [BitVec.toNat_ofInt]; simp [IntKind.bits]; omega
  have e2 : (BitVec.ofInt (IntKind.bits .u64) ((2 ^ k - 1 : Nat) : Int)).toNat = 2 ^ k - 1 := by
    rw [BitVec.toNat_ofInt]
    have : (((2 ^ k - 1 : Nat) : Int) % ((2 ^ IntKind.bits .u64 : Nat) : Int)).toNat = 2 ^ k - 1 := by
      simp only [IntKind.bits]
      rw [Int.emod_eq_of_lt (by omega) (by omega)]; simp
    exact this
  rw [BitVec.toNat_and, e1, e2, Nat.and_two_pow_sub_one_eq_mod]
  exact IntWalk.u64_in _ (by omega)

end Go.X
