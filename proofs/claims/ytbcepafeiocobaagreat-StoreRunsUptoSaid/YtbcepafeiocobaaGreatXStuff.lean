/-
  Layers 1, 2 and 5 in plain Lean: stuffing, sums, frames, and that the reference's way to read a frame is the program's.
-/
import Derived.Test.YtbcepafeiocobaaGreatXWord
namespace Go.X
open Go

/-! ### Stuffing -/

def encP : List UInt8 → List UInt8 → List UInt8
  | cur, [] => UInt8.ofNat (cur.length + 1) :: cur
  | cur, c :: t => if c = 0 then UInt8.ofNat (cur.length + 1) :: cur ++ encP [] t else if cur.length = 253 then 255 :: cur ++ c :: encP [] t else encP (cur ++ [c]) t

def enc (l : List UInt8) : List UInt8 := encP [] l

def hasZ (l : List UInt8) : Bool := l.any (· == 0)

def decP (l : List UInt8) : Option (List UInt8) :=
  match l with
  | [] => none
  | n :: t =>
    if n = 0 ∨ t.length + 1 < n.toNat ∨ hasZ (t.take (n.toNat - 1)) = true then none
    else if t.drop (n.toNat - 1) = [] then (if n = 255 then none else some (t.take (n.toNat - 1)))
    else (decP (t.drop (n.toNat - 1))).map fun o => t.take (n.toNat - 1) ++ (if n.toNat < 255 then [0] else []) ++ o
termination_by l.length
decreasing_by simp; omega

def plP (z : Bool) (l : List UInt8) : Option (List UInt8) :=
  match l with
  | [] => some []
  | n :: t =>
    if n = 0 ∨ t.length + 1 < n.toNat ∨ hasZ (t.take (n.toNat - 1)) = true then none
    else (plP (decide (n ≠ 255)) (t.drop (n.toNat - 1))).map fun o => (if z then [0] else []) ++ t.take (n.toNat - 1) ++ o
termination_by l.length
decreasing_by simp; omega

theorem decP_nil : decP [] = none := by rw [decP]
theorem plP_nil (z : Bool) : plP z [] = some [] := by rw [plP]

theorem encP_run : ∀ (p cur rest : List UInt8), hasZ p = false → cur.length + p.length ≤ 253 → encP cur (p ++ rest) = encP (cur ++ p) rest
  | [], cur, rest, _, _ => by simp
  | c :: p, cur, rest, hz, hl => by
    simp only [hasZ, List.any_cons, Bool.or_eq_false_iff, beq_eq_false_iff_ne] at hz
    simp only [List.length_cons] at hl
    rw [List.cons_append, encP, if_neg hz.1, if_neg (by omega), encP_run p _ rest hz.2 (by simp; omega)]
    simp

theorem enc_ne (cur l : List UInt8) : encP cur l ≠ [] := by
  induction l generalizing cur with
  | nil => simp [encP]
  | cons c t ih =>
    rw [encP]
    split
    · simp
    · split
      · simp
      · exact ih _

theorem ofNat_toNat {n : Nat} (h : n < 256) : (UInt8.ofNat n).toNat = n := by simp; omega

theorem decP_piece {p rest : List UInt8} (hz : hasZ p = false) (hp : p.length ≤ 254) (hr : rest ≠ []) :
    decP (UInt8.ofNat (p.length + 1) :: (p ++ rest)) = (decP rest).map fun o => p ++ (if p.length < 254 then [0] else []) ++ o := by
  have hn : (UInt8.ofNat (p.length + 1)).toNat = p.length + 1 := ofNat_toNat (by omega)
  rw [decP]
  have h1 : ¬ (UInt8.ofNat (p.length + 1) = 0 ∨ (p ++ rest).length + 1 < (UInt8.ofNat (p.length + 1)).toNat ∨ hasZ ((p ++ rest).take ((UInt8.ofNat (p.length + 1)).toNat - 1)) = true) := by
    rw [hn]
    rintro (h | h | h)
    · have := congrArg UInt8.toNat h; rw [hn] at this; simp at this
    · simp at h; omega
    · simp [hz] at h
  rw [if_neg h1]
  simp only [hn, Nat.add_sub_cancel, List.drop_left, List.take_left]
  rw [if_neg hr]
  congr 1
  funext o
  by_cases h : p.length < 254
  · rw [if_pos (by omega), if_pos h]
  · rw [if_neg (by omega), if_neg h]

theorem decP_last {p : List UInt8} (hz : hasZ p = false) (hp : p.length ≤ 253) : decP (UInt8.ofNat (p.length + 1) :: p) = some p := by
  have hn : (UInt8.ofNat (p.length + 1)).toNat = p.length + 1 := ofNat_toNat (by omega)
  rw [decP]
  have h1 : ¬ (UInt8.ofNat (p.length + 1) = 0 ∨ p.length + 1 < (UInt8.ofNat (p.length + 1)).toNat ∨ hasZ (p.take ((UInt8.ofNat (p.length + 1)).toNat - 1)) = true) := by
    rw [hn]
    rintro (h | h | h)
    · have := congrArg UInt8.toNat h; rw [hn] at this; simp at this
    · omega
    · simp [hz] at h
  rw [if_neg h1]
  simp only [hn, Nat.add_sub_cancel, List.drop_length, if_true, List.take_length]
  rw [if_neg]
  intro h
  have := congrArg UInt8.toNat h; rw [hn] at this; simp at this; omega

theorem hasZ_append (a b : List UInt8) : hasZ (a ++ b) = (hasZ a || hasZ b) := by simp [hasZ]

theorem dec_encP : ∀ (l cur : List UInt8), hasZ cur = false → cur.length ≤ 253 → decP (encP cur l) = some (cur ++ l)
  | [], cur, hz, hl => by rw [encP, decP_last hz hl]; simp
  | c :: t, cur, hz, hl => by
    rw [encP]
    split
    · rename_i hc
      subst hc
      rw [List.cons_append, decP_piece hz (by omega) (enc_ne _ _), dec_encP t [] rfl (by simp), if_pos (by omega)]
      simp
    · rename_i hc
      split
      · rename_i h3
        have h4 : hasZ (cur ++ [c]) = false := by rw [hasZ_append, hz]; simp [hasZ, hc]
        have := decP_piece (p := cur ++ [c]) (rest := encP [] t) h4 (by simp; omega) (enc_ne _ _)
        have e : UInt8.ofNat ((cur ++ [c]).length + 1) = 255 := by simp [h3]
        rw [e] at this
        rw [show (255 :: cur ++ c :: encP [] t : List UInt8) = 255 :: (cur ++ [c] ++ encP [] t) from by simp, this, dec_encP t [] rfl (by simp), if_neg (by simp; omega)]
        simp
      · rw [dec_encP t (cur ++ [c]) (by rw [hasZ_append, hz]; simp [hasZ, hc]) (by simp; omega)]
        simp

theorem dec_enc (l : List UInt8) : decP (enc l) = some l := by have := dec_encP l [] rfl (by simp); simpa [enc] using this

theorem enc_inj {a b : List UInt8} (h : enc a = enc b) : a = b := by
  have := congrArg decP h
  rw [dec_enc, dec_enc] at this
  exact Option.some.inj this

theorem enc_dec : ∀ (k : Nat) (l out : List UInt8), l.length ≤ k → decP l = some out → enc out = l
  | 0, l, out, hk, h => by
    obtain rfl : l = [] := List.eq_nil_of_length_eq_zero (by omega)
    rw [decP_nil] at h; cases h
  | k + 1, l, out, hk, h => by
    cases l with
    | nil => rw [decP_nil] at h; cases h
    | cons n t =>
      have hn : n.toNat < 256 := n.toNat_lt
      rw [decP] at h
      split at h
      · cases h
      · rename_i hc
        simp only [not_or, Bool.not_eq_true] at hc
        obtain ⟨h0, h1, hz⟩ := hc
        have hn0 : n.toNat ≠ 0 := fun e => h0 (UInt8.toNat_inj.1 (by simpa using e))
        have hpl : (t.take (n.toNat - 1)).length = n.toNat - 1 := by simp; omega
        have hne : UInt8.ofNat ((t.take (n.toNat - 1)).length + 1) = n := UInt8.toNat_inj.1 (by rw [hpl, ofNat_toNat (by omega)]; omega)
        split at h
        · rename_i hd
          split at h
          · cases h
          · rename_i hf
            cases h
            have hf2 : n.toNat ≠ 255 := fun e => hf (UInt8.toNat_inj.1 (by rw [e]; rfl))
            have ht : t.take (n.toNat - 1) = t := by
              have := List.take_append_drop (n.toNat - 1) t
              rw [hd, List.append_nil] at this; exact this
            have := encP_run (t.take (n.toNat - 1)) [] [] hz (by simp; omega)
            rw [List.append_nil, List.nil_append] at this
            rw [enc, this, encP, hne, ht]
        · rename_i hd
          simp only [Option.map_eq_some_iff] at h
          obtain ⟨o, ho, rfl⟩ := h
          have ih := enc_dec k (t.drop (n.toNat - 1)) o (by simp at hk ⊢; omega) ho
          have htd := List.take_append_drop (n.toNat - 1) t
          unfold enc at ih ⊢
          by_cases hf : n.toNat < 255
          · rw [if_pos hf, List.append_assoc, encP_run _ [] _ hz (by simp; omega), List.nil_append, List.singleton_append, encP, if_pos rfl, hne, ih, List.cons_append, htd]
          · rw [if_neg hf, List.append_nil]
            have h4 : n.toNat = 255 := by omega
            rw [h4] at hpl hz htd hne ih ⊢
            have hsp : t.take 254 = t.take 253 ++ [t[253]'(by simp at hpl; omega)] := List.take_succ_eq_append_getElem _
            have hz2 : hasZ (t.take 253) = false ∧ t[253]'(by simp at hpl; omega) ≠ 0 := by
              have : hasZ (t.take 254) = false := hz
              rw [hsp, hasZ_append, Bool.or_eq_false_iff] at this
              refine ⟨this.1, ?_⟩
              have := this.2
              simpa [hasZ] using this
            show encP [] (t.take 254 ++ o) = _
            have hl3 : (t.take 253).length = 253 := by simp at hpl ⊢; omega
            rw [hsp, List.append_assoc, encP_run _ [] _ hz2.1 (by simp; omega), List.nil_append, List.singleton_append, encP, if_neg hz2.2, if_pos hl3, ih]
            have hn5 : n = 255 := UInt8.toNat_inj.1 (by rw [h4]; rfl)
            have : (255 :: t.take 253 ++ t[253]'(by simp at hpl; omega) :: t.drop (255 - 1) : List UInt8) = 255 :: (t.take 254 ++ t.drop 254) := by rw [hsp]; simp
            rw [this, List.take_append_drop, hn5]

theorem plP_dec : ∀ (k : Nat) (l out : List UInt8) (z : Bool), l.length ≤ k → decP l = some out → plP z l = some ((if z then [0] else []) ++ out)
  | 0, l, out, z, hk, h => by
    obtain rfl : l = [] := List.eq_nil_of_length_eq_zero (by omega)
    rw [decP_nil] at h; cases h
  | k + 1, l, out, z, hk, h => by
    cases l with
    | nil => rw [decP_nil] at h; cases h
    | cons n t =>
      have hn : n.toNat < 256 := n.toNat_lt
      rw [decP] at h
      rw [plP]
      split at h
      · cases h
      · rename_i hc
        rw [if_neg hc]
        split at h
        · rename_i hd
          split at h
          · cases h
          · rename_i hf
            cases h
            rw [hd, plP_nil]
            simp
        · rename_i hd
          simp only [Option.map_eq_some_iff] at h
          obtain ⟨o, ho, rfl⟩ := h
          rw [plP_dec k _ o _ (by simp at hk ⊢; omega) ho]
          simp only [Option.map_some, List.append_assoc]
          congr 3
          by_cases hf : n.toNat < 255
          · have : n ≠ 255 := fun e => by rw [e] at hf; exact absurd hf (by decide)
            simp [hf, this]
          · have : n = 255 := UInt8.toNat_inj.1 (by show n.toNat = 255; omega)
            subst this
            rfl

/-- What the reference takes for decoded. -/
def refDec (l : List UInt8) : Option (List UInt8) :=
  if l = [] then none else match plP false l with | some o => if enc o = l then some o else none | none => none

theorem refDec_eq (l : List UInt8) : refDec l = decP l := by
  unfold refDec
  split
  · rename_i h; subst h; rw [decP_nil]
  · cases hd : decP l with
    | some o =>
      rw [plP_dec l.length l o false (Nat.le_refl _) hd]
      have := enc_dec l.length l o (Nat.le_refl _) hd
      simp [this]
    | none =>
      split
      · rename_i o ho
        split
        · rename_i he
          rw [← he, dec_enc] at hd; cases hd
        · rfl
      · rfl

/-! ### Sums -/

def half (x : Nat) : Nat := if x % 2 = 1 then (x / 2) ^^^ 2197175160 else x / 2
def half8 (x : Nat) : Nat := Nat.repeat half 8 x
def crcL (x : Nat) (l : List UInt8) : Nat := l.foldl (fun x c => half8 (x ^^^ c.toNat)) x
def crcA (s : Nat) (l : List UInt8) : Nat := 4294967295 - crcL (4294967295 - s) l

theorem half_lt {x : Nat} (h : x < 4294967296) : half x < 4294967296 := by
  unfold half
  split
  · exact Nat.xor_lt_two_pow (n := 32) (by omega) (by omega)
  · omega
theorem rep_lt {x : Nat} (h : x < 4294967296) : ∀ k, Nat.repeat half k x < 4294967296
  | 0 => h
  | k + 1 => half_lt (rep_lt h k)
theorem xor_lt {x y : Nat} (h : x < 4294967296) (hy : y < 4294967296) : x ^^^ y < 4294967296 := Nat.xor_lt_two_pow (n := 32) (by omega) (by omega)
theorem crcL_lt : ∀ (l : List UInt8) {x : Nat}, x < 4294967296 → crcL x l < 4294967296
  | [], x, h => h
  | c :: l, x, h => by
    have hc := c.toNat_lt
    exact crcL_lt l (rep_lt (xor_lt h (by omega)) 8)
theorem crcA_lt (s : Nat) (l : List UInt8) : crcA s l < 4294967296 := by unfold crcA; omega
theorem crcL_snoc (x : Nat) (l : List UInt8) (c : UInt8) : crcL x (l ++ [c]) = half8 (crcL x l ^^^ c.toNat) := by simp [crcL]

/-- A sum's bytes, the highest first. -/
def be4 (x : Nat) : List UInt8 := [UInt8.ofNat (x / 16777216 % 256), UInt8.ofNat (x / 65536 % 256), UInt8.ofNat (x / 256 % 256), UInt8.ofNat (x % 256)]

theorem be_be4 {x : Nat} (h : x < 4294967296) : be (be4 x) = x := by
  simp only [be, be4, List.foldl_cons, List.foldl_nil]
  rw [ofNat_toNat (by omega), ofNat_toNat (by omega), ofNat_toNat (by omega), ofNat_toNat (by omega)]
  omega

theorem be4_be {l : List UInt8} (h : l.length = 4) : be4 (be l) = l := by
  match l, h with
  | [a, b, c, d], _ =>
    have ha := a.toNat_lt; have hb := b.toNat_lt; have hc := c.toNat_lt; have hd := d.toNat_lt
    simp only [be, be4, List.foldl_cons, List.foldl_nil, List.cons.injEq, and_true]
    refine ⟨?_, ?_, ?_, ?_⟩ <;> (apply UInt8.toNat_inj.1; rw [ofNat_toNat (by omega)]; omega)

/-! ### Frames -/

/-- What is stuffed of a record. -/
def summed (x : List UInt8) : List UInt8 := x ++ be4 (crcA 0 x)
def frame (x : List UInt8) : List UInt8 := enc (summed x) ++ [0]

/-- Is it a record with its sum? -/
def recOf (o : List UInt8) : Option (List UInt8) :=
  if o.length < 4 ∨ 65540 < o.length then none
  else if crcA 0 (o.take (o.length - 4)) = be (o.drop (o.length - 4)) then some (o.take (o.length - 4)) else none

/-- The place of the first zero; the length: there is none. -/
def zeroAt (l : List UInt8) : Nat := (l.takeWhile (· != 0)).length

theorem zeroAt_le (l : List UInt8) : zeroAt l ≤ l.length := (List.takeWhile_sublist _).length_le

/-- The first record, and how many bytes its frame has. -/
def first (s : List UInt8) : Option (List UInt8 × Nat) :=
  if zeroAt s = s.length then none else ((decP (s.take (zeroAt s))).bind recOf).map fun x => (x, zeroAt s + 1)

theorem first_pos {s x : List UInt8} {k : Nat} (h : first s = some (x, k)) : 0 < k ∧ k ≤ s.length := by
  unfold first at h
  split at h
  · cases h
  · have := zeroAt_le s
    simp only [Option.map_eq_some_iff, Prod.mk.injEq] at h
    obtain ⟨a, _, _, rfl⟩ := h
    omega

def scan (s : List UInt8) : List (List UInt8) × Nat :=
  match h : first s with
  | none => ([], 0)
  | some (x, k) => (x :: (scan (s.drop k)).1, k + (scan (s.drop k)).2)
termination_by s.length
decreasing_by all_goals (have := first_pos h; simp; omega)

theorem scan_none {s : List UInt8} (h : first s = none) : scan s = ([], 0) := by rw [scan]; split <;> simp_all
theorem scan_some {s x : List UInt8} {k : Nat} (h : first s = some (x, k)) : scan s = (x :: (scan (s.drop k)).1, k + (scan (s.drop k)).2) := by
  rw [scan]
  split
  · rename_i h2; rw [h] at h2; cases h2
  · rename_i h2; rw [h] at h2; cases h2; rfl

theorem scan_le (k : Nat) : ∀ (s : List UInt8), s.length ≤ k → (scan s).2 ≤ s.length := by
  induction k with
  | zero =>
    intro s hs
    cases hf : first s with
    | none => rw [scan_none hf]; simp
    | some p => obtain ⟨x, k⟩ := p; have := first_pos hf; omega
  | succ k ih =>
    intro s hs
    cases hf : first s with
    | none => rw [scan_none hf]; simp
    | some p =>
      obtain ⟨x, n⟩ := p
      have h1 := first_pos hf
      have h2 := ih (s.drop n) (by simp; omega)
      rw [scan_some hf]
      simp at h2 ⊢; omega

/-- How the reference reads the first record. -/
def refFirst (s : List UInt8) : Option (List UInt8 × Nat) :=
  if zeroAt s = s.length then none else
    match refDec (s.take (zeroAt s)) with
    | none => none
    | some o => if o.length < 4 ∨ 65540 < o.length then none else if frame (o.take (o.length - 4)) = s.take (zeroAt s + 1) then some (o.take (o.length - 4), zeroAt s + 1) else none

theorem zeroAt_get {s : List UInt8} (h : zeroAt s < s.length) : s[zeroAt s] = 0 := by
  induction s with
  | nil => simp at h
  | cons c t ih =>
    by_cases hc : c = 0
    · subst hc; rfl
    · have e : zeroAt (c :: t) = zeroAt t + 1 := by simp [zeroAt, hc]
      have h2 : zeroAt t < t.length := by rw [e] at h; simpa using h
      have := ih h2
      simp only [e, List.getElem_cons_succ]
      exact this

theorem refFirst_eq (s : List UInt8) : refFirst s = first s := by
  unfold refFirst first
  by_cases h0 : zeroAt s = s.length
  · rw [if_pos h0, if_pos h0]
  rw [if_neg h0, if_neg h0, refDec_eq]
  cases hd : decP (s.take (zeroAt s)) with
  | none => rfl
  | some o =>
    simp only [Option.bind_some, recOf]
    by_cases hl : o.length < 4 ∨ 65540 < o.length
    · rw [if_pos hl, if_pos hl]; rfl
    rw [if_neg hl, if_neg hl]
    have hz : zeroAt s < s.length := by have := zeroAt_le s; omega
    have he := enc_dec _ _ _ (Nat.le_refl _) hd
    have ht : s.take (zeroAt s + 1) = s.take (zeroAt s) ++ [0] := by
      rw [List.take_succ_eq_append_getElem hz, zeroAt_get hz]
    have h4 : (o.drop (o.length - 4)).length = 4 := by simp; omega
    have key : frame (o.take (o.length - 4)) = s.take (zeroAt s + 1) ↔ crcA 0 (o.take (o.length - 4)) = be (o.drop (o.length - 4)) := by
      rw [ht, ← he, frame, List.append_left_inj]
      constructor
      · intro h
        have := enc_inj h
        rw [summed] at this
        have h2 := congrArg (List.drop (o.length - 4)) this
        rw [List.drop_left' (by simp)] at h2
        rw [← h2, be_be4 (crcA_lt _ _)]
      · intro h
        rw [summed, h, be4_be h4, List.take_append_drop]
    by_cases hk : crcA 0 (o.take (o.length - 4)) = be (o.drop (o.length - 4))
    · rw [if_pos (key.2 hk), if_pos hk]; rfl
    · rw [if_neg (fun e => hk (key.1 e)), if_neg hk]; rfl

end Go.X
